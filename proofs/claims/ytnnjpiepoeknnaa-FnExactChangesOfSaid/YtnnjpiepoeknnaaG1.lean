/- Texts of this claim, one behind the other: Pvt, Pvw, Pvx, Pvy, Pvr, Pq0, Png, Pnc, Pvz, Pvq, Pc1, Pc2, Pc3, Pc4, Pr5. -/
import Derived.Test.YtnnjpiepoeknnaaG0
import Derived.Deep.Slices
import Derived.ChangeArms
/- Versions: both functions tell whether they are ok. -/
set_option linter.unusedVariables false
set_option linter.unusedSimpArgs false
set_option maxHeartbeats 4000000
namespace Go.Proofs.Ytnnjpiepoeknnaa.PE
open Go.RowKit

-- find170
theorem run_l13 (d : Nat) (v : Ver) (h1 : v.row.vs.length < 1099511627776) (h2 : short v.row.vs) : retP (runD tab noExt (d + 4)) 170 [.agg [.int .i64 v.key, .int .i64 v.born, .int .i64 v.died, .sl v.row.clip 3 (v.row.vs.map Val.cells)]] = some [.bool v.one] := by
  rw [retP, runD_eq find170 _ _ _ (by simp)]
  have hr := run_rowOk d v.row.clip v.row.vs h1 h2
  obtain ⟨key, born, died, row⟩ := v
  simp only at hr h1 h2 ⊢
  unfold Ver.one
  simp only
  by_cases k1 : 0 ≤ key ∧ key ≤ 4
  · by_cases k2 : 1 ≤ born ∧ born ≤ 40
    · have k3 := k2.1
      have k4 := k2.2
      by_cases k5 : died = 0
      · simp -implicitDefEqProofs (disch := omega) only [go_sem, Nat.reduceBEq, Nat.reduceAdd, Nat.reduceSub, Nat.reduceMul, Nat.reduceLeDiff, Nat.reduceEqDiff, Nat.reduceLT, Int.reduceNeg, Int.reduceAdd, Int.reduceSub, Int.reduceMul, Int.reduceLE, Int.reduceLT, Int.reduceEq, Int.reduceToNat, reduceCtorEq, run_l1In, hr, Bool.true_or, Bool.false_or, (eq_true k1 : (0 ≤ key ∧ key ≤ 4) = True), (eq_true k2 : (1 ≤ born ∧ born ≤ 40) = True), (eq_true k5 : (died = 0) = True), IntWalk.i64_in]
      · by_cases k6 : born + 1 ≤ died ∧ died ≤ 40
        · simp -implicitDefEqProofs (disch := omega) only [go_sem, Nat.reduceBEq, Nat.reduceAdd, Nat.reduceSub, Nat.reduceMul, Nat.reduceLeDiff, Nat.reduceEqDiff, Nat.reduceLT, Int.reduceNeg, Int.reduceAdd, Int.reduceSub, Int.reduceMul, Int.reduceLE, Int.reduceLT, Int.reduceEq, Int.reduceToNat, reduceCtorEq, run_l1In, hr, Bool.true_or, Bool.false_or, (eq_true k1 : (0 ≤ key ∧ key ≤ 4) = True), (eq_true k2 : (1 ≤ born ∧ born ≤ 40) = True), (eq_false k5 : (died = 0) = False), (eq_true k6 : (born + 1 ≤ died ∧ died ≤ 40) = True), IntWalk.i64_in]
        · simp -implicitDefEqProofs (disch := omega) only [go_sem, Nat.reduceBEq, Nat.reduceAdd, Nat.reduceSub, Nat.reduceMul, Nat.reduceLeDiff, Nat.reduceEqDiff, Nat.reduceLT, Int.reduceNeg, Int.reduceAdd, Int.reduceSub, Int.reduceMul, Int.reduceLE, Int.reduceLT, Int.reduceEq, Int.reduceToNat, reduceCtorEq, run_l1In, hr, Bool.true_or, Bool.false_or, (eq_true k1 : (0 ≤ key ∧ key ≤ 4) = True), (eq_true k2 : (1 ≤ born ∧ born ≤ 40) = True), (eq_false k5 : (died = 0) = False), (eq_false k6 : (born + 1 ≤ died ∧ died ≤ 40) = False), IntWalk.i64_in]
    · simp -implicitDefEqProofs (disch := omega) only [go_sem, Nat.reduceBEq, Nat.reduceAdd, Nat.reduceSub, Nat.reduceMul, Nat.reduceLeDiff, Nat.reduceEqDiff, Nat.reduceLT, Int.reduceNeg, Int.reduceAdd, Int.reduceSub, Int.reduceMul, Int.reduceLE, Int.reduceLT, Int.reduceEq, Int.reduceToNat, reduceCtorEq, run_l1In, hr, Bool.true_or, Bool.false_or, (eq_true k1 : (0 ≤ key ∧ key ≤ 4) = True), (eq_false k2 : (1 ≤ born ∧ born ≤ 40) = False), IntWalk.i64_in]
  · simp -implicitDefEqProofs (disch := omega) only [go_sem, Nat.reduceBEq, Nat.reduceAdd, Nat.reduceSub, Nat.reduceMul, Nat.reduceLeDiff, Nat.reduceEqDiff, Nat.reduceLT, Int.reduceNeg, Int.reduceAdd, Int.reduceSub, Int.reduceMul, Int.reduceLE, Int.reduceLT, Int.reduceEq, Int.reduceToNat, reduceCtorEq, run_l1In, hr, Bool.true_or, Bool.false_or, (eq_false k1 : (0 ≤ key ∧ key ≤ 4) = False), IntWalk.i64_in]
def ShortVs (l : List Ver) : Prop := ∀ v ∈ l, v.row.vs.length < 1099511627776 ∧ short v.row.vs
theorem loop_versS (d : Nat) (c : Bool) (l : List Ver) (hs : l.length < 1099511627776) (hsh : ShortVs l) (K : Nat) (hK : (prevs none l).length ≤ K) :
    LoopS (runD tab noExt (d + 4)) (drawI (runD tab noExt (d + 4))) [0, 3] [0, 2] L114x0 0 K [(0, .sl c 4 (l.map Ver.cells)), (3, .int .i64 0)] [] = if (prevs none l).all (okBy ordS) then (some (.exit 0, [(0, .sl c 4 (l.map Ver.cells)), (2, .undef)], []) : Out) else some (.ret, [(0, .sl c 4 (l.map Ver.cells)), (2, .bool false)], []) := by
  have key := LoopS_all (run := runD tab noExt (d + 4)) (draw := drawI (runD tab noExt (d + 4))) (live := [0, 3]) (out := [0, 2]) (c := L114x0) (n0 := 0) (prevs none l) (okBy ordS) (fun (i : Nat) => [(0, .sl c 4 (l.map Ver.cells)), (3, .int .i64 (i : Int))]) [] (some (.exit 0, [(0, .sl c 4 (l.map Ver.cells)), (2, .undef)], [])) (some (.ret, [(0, .sl c 4 (l.map Ver.cells)), (2, .bool false)], [])) (fun K => ?_) (fun (i : Nat) x K hi hx => ?_) K hK
  · simp only [Int.natCast_zero] at key
    exact key
  · rw [LoopS_eq, prevs_len]
    simp -implicitDefEqProofs only [go_sem, Nat.reduceBEq, Nat.reduceAdd, Nat.reduceSub, Nat.reduceMul, Nat.reduceLeDiff, Nat.reduceEqDiff, Nat.reduceLT, Int.reduceNeg, Int.reduceAdd, Int.reduceSub, Int.reduceMul, Int.reduceLE, Int.reduceLT, Int.reduceEq, Int.reduceToNat, reduceCtorEq, evL114x0, B114x0, Int.lt_irrefl]
  · obtain ⟨p, v⟩ := x
    rw [prevs_len] at hi
    obtain ⟨g1, g2, g3⟩ := prevs_at hx
    obtain ⟨h1, h2⟩ := hsh v (List.mem_of_getElem? g1)
    have hv := run_l13 d v h1 h2
    rw [LoopS_eq]
    unfold okBy
    cases hone : v.one
    · rw [hone] at hv
      simp -implicitDefEqProofs (disch := omega) only [go_sem, Nat.reduceBEq, Nat.reduceAdd, Nat.reduceSub, Nat.reduceMul, Nat.reduceLeDiff, Nat.reduceEqDiff, Nat.reduceLT, Int.reduceNeg, Int.reduceAdd, Int.reduceSub, Int.reduceMul, Int.reduceLE, Int.reduceLT, Int.reduceEq, Int.reduceToNat, reduceCtorEq, evL114x0, B114x0, hi, g1, hv, Ver.cells, Row.v, IntWalk.i64_in]
    · rw [hone] at hv
      cases i with
      | zero =>
        obtain rfl := g2 rfl
        have hi0 : (0 : Int) < l.length := by omega
        simp -implicitDefEqProofs (disch := omega) only [go_sem, Nat.reduceBEq, Nat.reduceAdd, Nat.reduceSub, Nat.reduceMul, Nat.reduceLeDiff, Nat.reduceEqDiff, Nat.reduceLT, Int.reduceNeg, Int.reduceAdd, Int.reduceSub, Int.reduceMul, Int.reduceLE, Int.reduceLT, Int.reduceEq, Int.reduceToNat, reduceCtorEq, evL114x0, B114x0, evC_draw, evD114x0, E114x0, hi0, g1, hv, Ver.cells, Row.v, IntWalk.i64_in, Int.natCast_zero]
      | succ j =>
        have hj : j < l.length := by omega
        have hw := List.getElem?_eq_getElem hj
        obtain rfl := (g3 j rfl).trans hw
        generalize l[j] = w at hw
        have hp : (0 : Int) < (j : Int) + 1 := by omega
        have hj' : (j : Int) < l.length := by omega
        have hp0 : (0 : Int) ≤ (j : Int) + 1 := by omega
        have htn : ((j : Int) + 1).toNat = j + 1 := by omega
        have hi' : (j : Int) + 1 < l.length := by omega
        unfold ordS
        by_cases k1 : v.key ≤ w.key
        · by_cases k2 : v.key < w.key
          · simp -implicitDefEqProofs (disch := omega) only [go_sem, Nat.reduceBEq, Nat.reduceAdd, Nat.reduceSub, Nat.reduceMul, Nat.reduceLeDiff, Nat.reduceEqDiff, Nat.reduceLT, Int.reduceNeg, Int.reduceAdd, Int.reduceSub, Int.reduceMul, Int.reduceLE, Int.reduceLT, Int.reduceEq, Int.reduceToNat, reduceCtorEq, evL114x0, B114x0, evC_draw, evD114x0, E114x0, hi', hj', hp0, htn, hp, hw, g1, hv, Ver.cells, Row.v, IntWalk.i64_in, Int.add_sub_cancel, Int.add_assoc, Bool.true_or, Bool.false_or, (eq_true k1 : (v.key ≤ w.key) = True), (eq_true k2 : (v.key < w.key) = True)]
          · by_cases k3 : w.died = 0
            · simp -implicitDefEqProofs (disch := omega) only [go_sem, Nat.reduceBEq, Nat.reduceAdd, Nat.reduceSub, Nat.reduceMul, Nat.reduceLeDiff, Nat.reduceEqDiff, Nat.reduceLT, Int.reduceNeg, Int.reduceAdd, Int.reduceSub, Int.reduceMul, Int.reduceLE, Int.reduceLT, Int.reduceEq, Int.reduceToNat, reduceCtorEq, evL114x0, B114x0, evC_draw, evD114x0, E114x0, hi', hj', hp0, htn, hp, hw, g1, hv, Ver.cells, Row.v, IntWalk.i64_in, Int.add_sub_cancel, Int.add_assoc, Bool.true_or, Bool.false_or, (eq_true k1 : (v.key ≤ w.key) = True), (eq_false k2 : (v.key < w.key) = False), (eq_true k3 : (w.died = 0) = True)]
            · by_cases k4 : v.born < w.died
              · simp -implicitDefEqProofs (disch := omega) only [go_sem, Nat.reduceBEq, Nat.reduceAdd, Nat.reduceSub, Nat.reduceMul, Nat.reduceLeDiff, Nat.reduceEqDiff, Nat.reduceLT, Int.reduceNeg, Int.reduceAdd, Int.reduceSub, Int.reduceMul, Int.reduceLE, Int.reduceLT, Int.reduceEq, Int.reduceToNat, reduceCtorEq, evL114x0, B114x0, evC_draw, evD114x0, E114x0, hi', hj', hp0, htn, hp, hw, g1, hv, Ver.cells, Row.v, IntWalk.i64_in, Int.add_sub_cancel, Int.add_assoc, Bool.true_or, Bool.false_or, (eq_true k1 : (v.key ≤ w.key) = True), (eq_false k2 : (v.key < w.key) = False), (eq_false k3 : (w.died = 0) = False), (eq_true k4 : (v.born < w.died) = True)]
              · simp -implicitDefEqProofs (disch := omega) only [go_sem, Nat.reduceBEq, Nat.reduceAdd, Nat.reduceSub, Nat.reduceMul, Nat.reduceLeDiff, Nat.reduceEqDiff, Nat.reduceLT, Int.reduceNeg, Int.reduceAdd, Int.reduceSub, Int.reduceMul, Int.reduceLE, Int.reduceLT, Int.reduceEq, Int.reduceToNat, reduceCtorEq, evL114x0, B114x0, evC_draw, evD114x0, E114x0, hi', hj', hp0, htn, hp, hw, g1, hv, Ver.cells, Row.v, IntWalk.i64_in, Int.add_sub_cancel, Int.add_assoc, Bool.true_or, Bool.false_or, (eq_true k1 : (v.key ≤ w.key) = True), (eq_false k2 : (v.key < w.key) = False), (eq_false k3 : (w.died = 0) = False), (eq_false k4 : (v.born < w.died) = False)]
        · simp -implicitDefEqProofs (disch := omega) only [go_sem, Nat.reduceBEq, Nat.reduceAdd, Nat.reduceSub, Nat.reduceMul, Nat.reduceLeDiff, Nat.reduceEqDiff, Nat.reduceLT, Int.reduceNeg, Int.reduceAdd, Int.reduceSub, Int.reduceMul, Int.reduceLE, Int.reduceLT, Int.reduceEq, Int.reduceToNat, reduceCtorEq, evL114x0, B114x0, evC_draw, evD114x0, E114x0, hi', hj', hp0, htn, hp, hw, g1, hv, Ver.cells, Row.v, IntWalk.i64_in, Int.add_sub_cancel, Int.add_assoc, Bool.true_or, Bool.false_or, (eq_false k1 : (v.key ≤ w.key) = False)]
-- find114
theorem run_versS (d : Nat) (c : Bool) (l : List Ver) (hs : l.length < 1099511627776) (hsh : ShortVs l) : retP (runD tab noExt (d + 5)) 114 [.sl c 4 (l.map Ver.cells)] = some [.bool (versOk l)] := by
  rw [retP, runD_eq find114 _ _ _ (by simp)]
  have hl := loop_versS d c l hs hsh 1099511627775 (by rw [prevs_len]; omega)
  simp -implicitDefEqProofs (disch := omega) only [go_sem, Nat.reduceBEq, Nat.reduceAdd, Nat.reduceSub, Nat.reduceMul, Nat.reduceLeDiff, Nat.reduceEqDiff, Nat.reduceLT, Int.reduceNeg, Int.reduceAdd, Int.reduceSub, Int.reduceMul, Int.reduceLE, Int.reduceLT, Int.reduceEq, Int.reduceToNat, reduceCtorEq]
  rw [hl]
  unfold versOk
  cases h : (prevs none l).all (okBy ordS)
  · simp -implicitDefEqProofs (disch := omega) only [go_sem, Nat.reduceBEq, Nat.reduceAdd, Nat.reduceSub, Nat.reduceMul, Nat.reduceLeDiff, Nat.reduceEqDiff, Nat.reduceLT, Int.reduceNeg, Int.reduceAdd, Int.reduceSub, Int.reduceMul, Int.reduceLE, Int.reduceLT, Int.reduceEq, Int.reduceToNat, reduceCtorEq]
  · by_cases h60 : (l.length : Int) ≤ 60 <;> simp -implicitDefEqProofs (disch := omega) only [go_sem, Nat.reduceBEq, Nat.reduceAdd, Nat.reduceSub, Nat.reduceMul, Nat.reduceLeDiff, Nat.reduceEqDiff, Nat.reduceLT, Int.reduceNeg, Int.reduceAdd, Int.reduceSub, Int.reduceMul, Int.reduceLE, Int.reduceLT, Int.reduceEq, Int.reduceToNat, reduceCtorEq, h60]
theorem run_keyOk (d : Nat) (n : Int) : retP (runD tab noExt (d + 2)) 127 [.int .i64 n] = some [.bool (decide (0 ≤ n ∧ n ≤ 4))] := by
  rw [retP, runD_eq find127 _ _ _ (by simp)]
  simp -implicitDefEqProofs (disch := omega) only [go_sem, Nat.reduceBEq, Nat.reduceAdd, Nat.reduceSub, Nat.reduceMul, Nat.reduceLeDiff, Nat.reduceEqDiff, Nat.reduceLT, Int.reduceNeg, Int.reduceAdd, Int.reduceSub, Int.reduceMul, Int.reduceLE, Int.reduceLT, Int.reduceEq, Int.reduceToNat, reduceCtorEq, run_between]
  repeat' ((first | rw [GuardI_ndec] | rw [CondC_ndec] | rw [GuardQ_ndec] | rw [GuardI_dec] | rw [CondC_dec] | rw [GuardQ_dec] | rw [GuardI_nby] | rw [CondC_nby] | rw [GuardQ_nby] | rw [GuardQ_by] | rw [GuardI_by] | rw [CondC_by]) <;> split <;> simp -implicitDefEqProofs (disch := omega) only [go_sem, Nat.reduceBEq, Nat.reduceAdd, Nat.reduceSub, Nat.reduceMul, Nat.reduceLeDiff, Nat.reduceEqDiff, Nat.reduceLT, Int.reduceNeg, Int.reduceAdd, Int.reduceSub, Int.reduceMul, Int.reduceLE, Int.reduceLT, Int.reduceEq, Int.reduceToNat, reduceCtorEq, run_between, *])
  all_goals simp_all
theorem loop_versI (d : Nat) (c : Bool) (l : List Ver) (hs : l.length < 1099511627776) (hsh : ShortVs l) (K : Nat) (hK : (prevs none l).length ≤ K) :
    LoopS (runD tab noExt (d + 7)) (drawI (runD tab noExt (d + 7))) [0, 6, 7, 8] [0, 2] L59x0 0 K [(0, .sl c 4 (l.map Ver.cells)), (6, .sl c 4 (l.map Ver.cells)), (7, .int .i64 l.length), (8, .int .i64 0)] [] = if (prevs none l).all (okBy ordI) then (some (.exit 0, [(0, .sl c 4 (l.map Ver.cells)), (2, .undef)], []) : Out) else some (.ret, [(0, .sl c 4 (l.map Ver.cells)), (2, .bool false)], []) := by
  have key := LoopS_all (run := runD tab noExt (d + 7)) (draw := drawI (runD tab noExt (d + 7))) (live := [0, 6, 7, 8]) (out := [0, 2]) (c := L59x0) (n0 := 0) (prevs none l) (okBy ordI) (fun (i : Nat) => [(0, .sl c 4 (l.map Ver.cells)), (6, .sl c 4 (l.map Ver.cells)), (7, .int .i64 l.length), (8, .int .i64 (i : Int))]) [] (some (.exit 0, [(0, .sl c 4 (l.map Ver.cells)), (2, .undef)], [])) (some (.ret, [(0, .sl c 4 (l.map Ver.cells)), (2, .bool false)], [])) (fun K => ?_) (fun (i : Nat) x K hi hx => ?_) K hK
  · simp only [Int.natCast_zero] at key
    exact key
  · rw [LoopS_eq, prevs_len]
    simp -implicitDefEqProofs only [go_sem, Nat.reduceBEq, Nat.reduceAdd, Nat.reduceSub, Nat.reduceMul, Nat.reduceLeDiff, Nat.reduceEqDiff, Nat.reduceLT, Int.reduceNeg, Int.reduceAdd, Int.reduceSub, Int.reduceMul, Int.reduceLE, Int.reduceLT, Int.reduceEq, Int.reduceToNat, reduceCtorEq, evL59x0, B59x0, Int.lt_irrefl]
  · obtain ⟨p, v⟩ := x
    rw [prevs_len] at hi
    obtain ⟨g1, g2, g3⟩ := prevs_at hx
    obtain ⟨h1, h2⟩ := hsh v (List.mem_of_getElem? g1)
    have hr := run_rowOkI d v.row.clip v.row.vs h1
    rw [LoopS_eq]
    have bad : v.one = false → ∀ (A B : Out), (if okBy ordI (p, v) = true then A else B) = B := fun h A B => by simp only [okBy, h, Bool.false_and, Bool.false_eq_true, if_false]
    by_cases k1 : 0 ≤ v.key ∧ v.key ≤ 4
    rotate_left
    · rw [bad (by simp [Ver.one, k1])]
      simp -implicitDefEqProofs (disch := omega) only [go_sem, Nat.reduceBEq, Nat.reduceAdd, Nat.reduceSub, Nat.reduceMul, Nat.reduceLeDiff, Nat.reduceEqDiff, Nat.reduceLT, Int.reduceNeg, Int.reduceAdd, Int.reduceSub, Int.reduceMul, Int.reduceLE, Int.reduceLT, Int.reduceEq, Int.reduceToNat, reduceCtorEq, evL59x0, B59x0, run_keyOk, run_between, hr, g1, Ver.cells, Row.v, IntWalk.i64_in, Int.add_sub_cancel, Int.add_assoc, Bool.true_or, Bool.false_or, hi, (eq_false k1 : (0 ≤ v.key ∧ v.key ≤ 4) = False)]
    by_cases k2 : 1 ≤ v.born ∧ v.born ≤ 40
    rotate_left
    · rw [bad (by simp [Ver.one, k2])]
      simp -implicitDefEqProofs (disch := omega) only [go_sem, Nat.reduceBEq, Nat.reduceAdd, Nat.reduceSub, Nat.reduceMul, Nat.reduceLeDiff, Nat.reduceEqDiff, Nat.reduceLT, Int.reduceNeg, Int.reduceAdd, Int.reduceSub, Int.reduceMul, Int.reduceLE, Int.reduceLT, Int.reduceEq, Int.reduceToNat, reduceCtorEq, evL59x0, B59x0, run_keyOk, run_between, hr, g1, Ver.cells, Row.v, IntWalk.i64_in, Int.add_sub_cancel, Int.add_assoc, Bool.true_or, Bool.false_or, hi, (eq_true k1 : (0 ≤ v.key ∧ v.key ≤ 4) = True), (eq_false k2 : (1 ≤ v.born ∧ v.born ≤ 40) = False)]
    have k3 := k2.1
    have k4 := k2.2
    have hd : (v.died = 0 ∨ (¬ v.died = 0 ∧ (v.born + 1 ≤ v.died ∧ v.died ≤ 40))) ∨ (¬ v.died = 0 ∧ ¬ (v.born + 1 ≤ v.died ∧ v.died ≤ 40)) := by omega
    rcases hd with hd | ⟨k5, k6⟩
    rotate_left
    · rw [bad (by simp [Ver.one, k5, k6])]
      simp -implicitDefEqProofs (disch := omega) only [go_sem, Nat.reduceBEq, Nat.reduceAdd, Nat.reduceSub, Nat.reduceMul, Nat.reduceLeDiff, Nat.reduceEqDiff, Nat.reduceLT, Int.reduceNeg, Int.reduceAdd, Int.reduceSub, Int.reduceMul, Int.reduceLE, Int.reduceLT, Int.reduceEq, Int.reduceToNat, reduceCtorEq, evL59x0, B59x0, run_keyOk, run_between, hr, g1, Ver.cells, Row.v, IntWalk.i64_in, Int.add_sub_cancel, Int.add_assoc, Bool.true_or, Bool.false_or, hi, (eq_true k1 : (0 ≤ v.key ∧ v.key ≤ 4) = True), (eq_true k2 : (1 ≤ v.born ∧ v.born ≤ 40) = True), (eq_false k5 : (v.died = 0) = False), (eq_false k6 : (v.born + 1 ≤ v.died ∧ v.died ≤ 40) = False)]
    cases hro : rowOk v.row.vs
    · rw [bad (by simp [Ver.one, hro])]
      rw [hro] at hr
      rcases hd with k5 | ⟨k5, k6⟩
      · simp -implicitDefEqProofs (disch := omega) only [go_sem, Nat.reduceBEq, Nat.reduceAdd, Nat.reduceSub, Nat.reduceMul, Nat.reduceLeDiff, Nat.reduceEqDiff, Nat.reduceLT, Int.reduceNeg, Int.reduceAdd, Int.reduceSub, Int.reduceMul, Int.reduceLE, Int.reduceLT, Int.reduceEq, Int.reduceToNat, reduceCtorEq, evL59x0, B59x0, run_keyOk, run_between, hr, g1, Ver.cells, Row.v, IntWalk.i64_in, Int.add_sub_cancel, Int.add_assoc, Bool.true_or, Bool.false_or, hi, (eq_true k1 : (0 ≤ v.key ∧ v.key ≤ 4) = True), (eq_true k2 : (1 ≤ v.born ∧ v.born ≤ 40) = True), (eq_true k5 : (v.died = 0) = True)]
      · simp -implicitDefEqProofs (disch := omega) only [go_sem, Nat.reduceBEq, Nat.reduceAdd, Nat.reduceSub, Nat.reduceMul, Nat.reduceLeDiff, Nat.reduceEqDiff, Nat.reduceLT, Int.reduceNeg, Int.reduceAdd, Int.reduceSub, Int.reduceMul, Int.reduceLE, Int.reduceLT, Int.reduceEq, Int.reduceToNat, reduceCtorEq, evL59x0, B59x0, run_keyOk, run_between, hr, g1, Ver.cells, Row.v, IntWalk.i64_in, Int.add_sub_cancel, Int.add_assoc, Bool.true_or, Bool.false_or, hi, (eq_true k1 : (0 ≤ v.key ∧ v.key ≤ 4) = True), (eq_true k2 : (1 ≤ v.born ∧ v.born ≤ 40) = True), (eq_false k5 : (v.died = 0) = False), (eq_true k6 : (v.born + 1 ≤ v.died ∧ v.died ≤ 40) = True)]
    have hone : v.one = true := by
      rcases hd with k5 | ⟨k5, k6⟩ <;> simp [Ver.one, k1, k2, k5, hro]
      exact k6
    rw [hro] at hr
    cases i with
    | zero =>
      obtain rfl := g2 rfl
      have hi0 : (0 : Int) < l.length := by omega
      have e : okBy ordI (none, v) = true := by simp [okBy, hone]
      rw [e]
      rcases hd with k5 | ⟨k5, k6⟩
      · simp -implicitDefEqProofs (disch := omega) only [go_sem, Nat.reduceBEq, Nat.reduceAdd, Nat.reduceSub, Nat.reduceMul, Nat.reduceLeDiff, Nat.reduceEqDiff, Nat.reduceLT, Int.reduceNeg, Int.reduceAdd, Int.reduceSub, Int.reduceMul, Int.reduceLE, Int.reduceLT, Int.reduceEq, Int.reduceToNat, reduceCtorEq, evL59x0, B59x0, run_keyOk, run_between, hr, g1, Ver.cells, Row.v, IntWalk.i64_in, Int.add_sub_cancel, Int.add_assoc, Bool.true_or, Bool.false_or, hi0, (eq_true k1 : (0 ≤ v.key ∧ v.key ≤ 4) = True), (eq_true k2 : (1 ≤ v.born ∧ v.born ≤ 40) = True), (eq_true k5 : (v.died = 0) = True), Int.natCast_zero]
      · simp -implicitDefEqProofs (disch := omega) only [go_sem, Nat.reduceBEq, Nat.reduceAdd, Nat.reduceSub, Nat.reduceMul, Nat.reduceLeDiff, Nat.reduceEqDiff, Nat.reduceLT, Int.reduceNeg, Int.reduceAdd, Int.reduceSub, Int.reduceMul, Int.reduceLE, Int.reduceLT, Int.reduceEq, Int.reduceToNat, reduceCtorEq, evL59x0, B59x0, run_keyOk, run_between, hr, g1, Ver.cells, Row.v, IntWalk.i64_in, Int.add_sub_cancel, Int.add_assoc, Bool.true_or, Bool.false_or, hi0, (eq_true k1 : (0 ≤ v.key ∧ v.key ≤ 4) = True), (eq_true k2 : (1 ≤ v.born ∧ v.born ≤ 40) = True), (eq_false k5 : (v.died = 0) = False), (eq_true k6 : (v.born + 1 ≤ v.died ∧ v.died ≤ 40) = True), Int.natCast_zero]
    | succ j =>
      have hj : j < l.length := by omega
      have hw := List.getElem?_eq_getElem hj
      obtain rfl := (g3 j rfl).trans hw
      generalize l[j] = w at hw
      have hp : ((j : Int) + 1 = 0) = False := eq_false (by omega)
      have hj' : (j : Int) < l.length := by omega
      have hp0 : (0 : Int) ≤ (j : Int) + 1 := by omega
      have htn : ((j : Int) + 1).toNat = j + 1 := by omega
      have hi' : (j : Int) + 1 < l.length := by omega
      have e : okBy ordI (some w, v) = ordI w v := by simp [okBy, hone]
      rw [e]
      unfold ordI
      have cases5 : v.key < w.key ∨ (¬ v.key < w.key ∧ ¬ w.key = v.key) ∨ (¬ v.key < w.key ∧ w.key = v.key ∧ v.born ≤ w.born) ∨ (¬ v.key < w.key ∧ w.key = v.key ∧ ¬ v.born ≤ w.born ∧ w.died = 0) ∨ (¬ v.key < w.key ∧ w.key = v.key ∧ ¬ v.born ≤ w.born ∧ ¬ w.died = 0 ∧ v.born < w.died) ∨ (¬ v.key < w.key ∧ w.key = v.key ∧ ¬ v.born ≤ w.born ∧ ¬ w.died = 0 ∧ ¬ v.born < w.died) := by omega
      rcases cases5 with c1 | ⟨c1, c2⟩ | ⟨c1, c2, c3⟩ | ⟨c1, c2, c3, c4⟩ | ⟨c1, c2, c3, c4, c5⟩ | ⟨c1, c2, c3, c4, c5⟩
      · rcases hd with k5 | ⟨k5, k6⟩
        · simp -implicitDefEqProofs (disch := omega) only [go_sem, Nat.reduceBEq, Nat.reduceAdd, Nat.reduceSub, Nat.reduceMul, Nat.reduceLeDiff, Nat.reduceEqDiff, Nat.reduceLT, Int.reduceNeg, Int.reduceAdd, Int.reduceSub, Int.reduceMul, Int.reduceLE, Int.reduceLT, Int.reduceEq, Int.reduceToNat, reduceCtorEq, evL59x0, B59x0, run_keyOk, run_between, hr, g1, Ver.cells, Row.v, IntWalk.i64_in, Int.add_sub_cancel, Int.add_assoc, Bool.true_or, Bool.false_or, hi', hj', hp0, htn, hp, hw, (eq_true k1 : (0 ≤ v.key ∧ v.key ≤ 4) = True), (eq_true k2 : (1 ≤ v.born ∧ v.born ≤ 40) = True), (eq_true k5 : (v.died = 0) = True), (eq_true c1 : (v.key < w.key) = True)]
        · simp -implicitDefEqProofs (disch := omega) only [go_sem, Nat.reduceBEq, Nat.reduceAdd, Nat.reduceSub, Nat.reduceMul, Nat.reduceLeDiff, Nat.reduceEqDiff, Nat.reduceLT, Int.reduceNeg, Int.reduceAdd, Int.reduceSub, Int.reduceMul, Int.reduceLE, Int.reduceLT, Int.reduceEq, Int.reduceToNat, reduceCtorEq, evL59x0, B59x0, run_keyOk, run_between, hr, g1, Ver.cells, Row.v, IntWalk.i64_in, Int.add_sub_cancel, Int.add_assoc, Bool.true_or, Bool.false_or, hi', hj', hp0, htn, hp, hw, (eq_true k1 : (0 ≤ v.key ∧ v.key ≤ 4) = True), (eq_true k2 : (1 ≤ v.born ∧ v.born ≤ 40) = True), (eq_false k5 : (v.died = 0) = False), (eq_true k6 : (v.born + 1 ≤ v.died ∧ v.died ≤ 40) = True), (eq_true c1 : (v.key < w.key) = True)]
      · rcases hd with k5 | ⟨k5, k6⟩
        · simp -implicitDefEqProofs (disch := omega) only [go_sem, Nat.reduceBEq, Nat.reduceAdd, Nat.reduceSub, Nat.reduceMul, Nat.reduceLeDiff, Nat.reduceEqDiff, Nat.reduceLT, Int.reduceNeg, Int.reduceAdd, Int.reduceSub, Int.reduceMul, Int.reduceLE, Int.reduceLT, Int.reduceEq, Int.reduceToNat, reduceCtorEq, evL59x0, B59x0, run_keyOk, run_between, hr, g1, Ver.cells, Row.v, IntWalk.i64_in, Int.add_sub_cancel, Int.add_assoc, Bool.true_or, Bool.false_or, hi', hj', hp0, htn, hp, hw, (eq_true k1 : (0 ≤ v.key ∧ v.key ≤ 4) = True), (eq_true k2 : (1 ≤ v.born ∧ v.born ≤ 40) = True), (eq_true k5 : (v.died = 0) = True), (eq_false c1 : (v.key < w.key) = False), (eq_false c2 : (w.key = v.key) = False)]
        · simp -implicitDefEqProofs (disch := omega) only [go_sem, Nat.reduceBEq, Nat.reduceAdd, Nat.reduceSub, Nat.reduceMul, Nat.reduceLeDiff, Nat.reduceEqDiff, Nat.reduceLT, Int.reduceNeg, Int.reduceAdd, Int.reduceSub, Int.reduceMul, Int.reduceLE, Int.reduceLT, Int.reduceEq, Int.reduceToNat, reduceCtorEq, evL59x0, B59x0, run_keyOk, run_between, hr, g1, Ver.cells, Row.v, IntWalk.i64_in, Int.add_sub_cancel, Int.add_assoc, Bool.true_or, Bool.false_or, hi', hj', hp0, htn, hp, hw, (eq_true k1 : (0 ≤ v.key ∧ v.key ≤ 4) = True), (eq_true k2 : (1 ≤ v.born ∧ v.born ≤ 40) = True), (eq_false k5 : (v.died = 0) = False), (eq_true k6 : (v.born + 1 ≤ v.died ∧ v.died ≤ 40) = True), (eq_false c1 : (v.key < w.key) = False), (eq_false c2 : (w.key = v.key) = False)]
      · rcases hd with k5 | ⟨k5, k6⟩
        · simp -implicitDefEqProofs (disch := omega) only [go_sem, Nat.reduceBEq, Nat.reduceAdd, Nat.reduceSub, Nat.reduceMul, Nat.reduceLeDiff, Nat.reduceEqDiff, Nat.reduceLT, Int.reduceNeg, Int.reduceAdd, Int.reduceSub, Int.reduceMul, Int.reduceLE, Int.reduceLT, Int.reduceEq, Int.reduceToNat, reduceCtorEq, evL59x0, B59x0, run_keyOk, run_between, hr, g1, Ver.cells, Row.v, IntWalk.i64_in, Int.add_sub_cancel, Int.add_assoc, Bool.true_or, Bool.false_or, hi', hj', hp0, htn, hp, hw, (eq_true k1 : (0 ≤ v.key ∧ v.key ≤ 4) = True), (eq_true k2 : (1 ≤ v.born ∧ v.born ≤ 40) = True), (eq_true k5 : (v.died = 0) = True), (eq_false c1 : (v.key < w.key) = False), (eq_true c2 : (w.key = v.key) = True), (eq_true c3 : (v.born ≤ w.born) = True)]
        · simp -implicitDefEqProofs (disch := omega) only [go_sem, Nat.reduceBEq, Nat.reduceAdd, Nat.reduceSub, Nat.reduceMul, Nat.reduceLeDiff, Nat.reduceEqDiff, Nat.reduceLT, Int.reduceNeg, Int.reduceAdd, Int.reduceSub, Int.reduceMul, Int.reduceLE, Int.reduceLT, Int.reduceEq, Int.reduceToNat, reduceCtorEq, evL59x0, B59x0, run_keyOk, run_between, hr, g1, Ver.cells, Row.v, IntWalk.i64_in, Int.add_sub_cancel, Int.add_assoc, Bool.true_or, Bool.false_or, hi', hj', hp0, htn, hp, hw, (eq_true k1 : (0 ≤ v.key ∧ v.key ≤ 4) = True), (eq_true k2 : (1 ≤ v.born ∧ v.born ≤ 40) = True), (eq_false k5 : (v.died = 0) = False), (eq_true k6 : (v.born + 1 ≤ v.died ∧ v.died ≤ 40) = True), (eq_false c1 : (v.key < w.key) = False), (eq_true c2 : (w.key = v.key) = True), (eq_true c3 : (v.born ≤ w.born) = True)]
      · rcases hd with k5 | ⟨k5, k6⟩
        · simp -implicitDefEqProofs (disch := omega) only [go_sem, Nat.reduceBEq, Nat.reduceAdd, Nat.reduceSub, Nat.reduceMul, Nat.reduceLeDiff, Nat.reduceEqDiff, Nat.reduceLT, Int.reduceNeg, Int.reduceAdd, Int.reduceSub, Int.reduceMul, Int.reduceLE, Int.reduceLT, Int.reduceEq, Int.reduceToNat, reduceCtorEq, evL59x0, B59x0, run_keyOk, run_between, hr, g1, Ver.cells, Row.v, IntWalk.i64_in, Int.add_sub_cancel, Int.add_assoc, Bool.true_or, Bool.false_or, hi', hj', hp0, htn, hp, hw, (eq_true k1 : (0 ≤ v.key ∧ v.key ≤ 4) = True), (eq_true k2 : (1 ≤ v.born ∧ v.born ≤ 40) = True), (eq_true k5 : (v.died = 0) = True), (eq_false c1 : (v.key < w.key) = False), (eq_true c2 : (w.key = v.key) = True), (eq_false c3 : (v.born ≤ w.born) = False), (eq_true c4 : (w.died = 0) = True)]
        · simp -implicitDefEqProofs (disch := omega) only [go_sem, Nat.reduceBEq, Nat.reduceAdd, Nat.reduceSub, Nat.reduceMul, Nat.reduceLeDiff, Nat.reduceEqDiff, Nat.reduceLT, Int.reduceNeg, Int.reduceAdd, Int.reduceSub, Int.reduceMul, Int.reduceLE, Int.reduceLT, Int.reduceEq, Int.reduceToNat, reduceCtorEq, evL59x0, B59x0, run_keyOk, run_between, hr, g1, Ver.cells, Row.v, IntWalk.i64_in, Int.add_sub_cancel, Int.add_assoc, Bool.true_or, Bool.false_or, hi', hj', hp0, htn, hp, hw, (eq_true k1 : (0 ≤ v.key ∧ v.key ≤ 4) = True), (eq_true k2 : (1 ≤ v.born ∧ v.born ≤ 40) = True), (eq_false k5 : (v.died = 0) = False), (eq_true k6 : (v.born + 1 ≤ v.died ∧ v.died ≤ 40) = True), (eq_false c1 : (v.key < w.key) = False), (eq_true c2 : (w.key = v.key) = True), (eq_false c3 : (v.born ≤ w.born) = False), (eq_true c4 : (w.died = 0) = True)]
      · rcases hd with k5 | ⟨k5, k6⟩
        · simp -implicitDefEqProofs (disch := omega) only [go_sem, Nat.reduceBEq, Nat.reduceAdd, Nat.reduceSub, Nat.reduceMul, Nat.reduceLeDiff, Nat.reduceEqDiff, Nat.reduceLT, Int.reduceNeg, Int.reduceAdd, Int.reduceSub, Int.reduceMul, Int.reduceLE, Int.reduceLT, Int.reduceEq, Int.reduceToNat, reduceCtorEq, evL59x0, B59x0, run_keyOk, run_between, hr, g1, Ver.cells, Row.v, IntWalk.i64_in, Int.add_sub_cancel, Int.add_assoc, Bool.true_or, Bool.false_or, hi', hj', hp0, htn, hp, hw, (eq_true k1 : (0 ≤ v.key ∧ v.key ≤ 4) = True), (eq_true k2 : (1 ≤ v.born ∧ v.born ≤ 40) = True), (eq_true k5 : (v.died = 0) = True), (eq_false c1 : (v.key < w.key) = False), (eq_true c2 : (w.key = v.key) = True), (eq_false c3 : (v.born ≤ w.born) = False), (eq_false c4 : (w.died = 0) = False), (eq_true c5 : (v.born < w.died) = True)]
        · simp -implicitDefEqProofs (disch := omega) only [go_sem, Nat.reduceBEq, Nat.reduceAdd, Nat.reduceSub, Nat.reduceMul, Nat.reduceLeDiff, Nat.reduceEqDiff, Nat.reduceLT, Int.reduceNeg, Int.reduceAdd, Int.reduceSub, Int.reduceMul, Int.reduceLE, Int.reduceLT, Int.reduceEq, Int.reduceToNat, reduceCtorEq, evL59x0, B59x0, run_keyOk, run_between, hr, g1, Ver.cells, Row.v, IntWalk.i64_in, Int.add_sub_cancel, Int.add_assoc, Bool.true_or, Bool.false_or, hi', hj', hp0, htn, hp, hw, (eq_true k1 : (0 ≤ v.key ∧ v.key ≤ 4) = True), (eq_true k2 : (1 ≤ v.born ∧ v.born ≤ 40) = True), (eq_false k5 : (v.died = 0) = False), (eq_true k6 : (v.born + 1 ≤ v.died ∧ v.died ≤ 40) = True), (eq_false c1 : (v.key < w.key) = False), (eq_true c2 : (w.key = v.key) = True), (eq_false c3 : (v.born ≤ w.born) = False), (eq_false c4 : (w.died = 0) = False), (eq_true c5 : (v.born < w.died) = True)]
      · rcases hd with k5 | ⟨k5, k6⟩
        · simp -implicitDefEqProofs (disch := omega) only [go_sem, Nat.reduceBEq, Nat.reduceAdd, Nat.reduceSub, Nat.reduceMul, Nat.reduceLeDiff, Nat.reduceEqDiff, Nat.reduceLT, Int.reduceNeg, Int.reduceAdd, Int.reduceSub, Int.reduceMul, Int.reduceLE, Int.reduceLT, Int.reduceEq, Int.reduceToNat, reduceCtorEq, evL59x0, B59x0, run_keyOk, run_between, hr, g1, Ver.cells, Row.v, IntWalk.i64_in, Int.add_sub_cancel, Int.add_assoc, Bool.true_or, Bool.false_or, hi', hj', hp0, htn, hp, hw, (eq_true k1 : (0 ≤ v.key ∧ v.key ≤ 4) = True), (eq_true k2 : (1 ≤ v.born ∧ v.born ≤ 40) = True), (eq_true k5 : (v.died = 0) = True), (eq_false c1 : (v.key < w.key) = False), (eq_true c2 : (w.key = v.key) = True), (eq_false c3 : (v.born ≤ w.born) = False), (eq_false c4 : (w.died = 0) = False), (eq_false c5 : (v.born < w.died) = False)]
        · simp -implicitDefEqProofs (disch := omega) only [go_sem, Nat.reduceBEq, Nat.reduceAdd, Nat.reduceSub, Nat.reduceMul, Nat.reduceLeDiff, Nat.reduceEqDiff, Nat.reduceLT, Int.reduceNeg, Int.reduceAdd, Int.reduceSub, Int.reduceMul, Int.reduceLE, Int.reduceLT, Int.reduceEq, Int.reduceToNat, reduceCtorEq, evL59x0, B59x0, run_keyOk, run_between, hr, g1, Ver.cells, Row.v, IntWalk.i64_in, Int.add_sub_cancel, Int.add_assoc, Bool.true_or, Bool.false_or, hi', hj', hp0, htn, hp, hw, (eq_true k1 : (0 ≤ v.key ∧ v.key ≤ 4) = True), (eq_true k2 : (1 ≤ v.born ∧ v.born ≤ 40) = True), (eq_false k5 : (v.died = 0) = False), (eq_true k6 : (v.born + 1 ≤ v.died ∧ v.died ≤ 40) = True), (eq_false c1 : (v.key < w.key) = False), (eq_true c2 : (w.key = v.key) = True), (eq_false c3 : (v.born ≤ w.born) = False), (eq_false c4 : (w.died = 0) = False), (eq_false c5 : (v.born < w.died) = False)]
-- find59
theorem run_versI (d : Nat) (c : Bool) (l : List Ver) (hs : l.length < 1099511627776) (hsh : ShortVs l) : retP (runD tab noExt (d + 8)) 59 [.sl c 4 (l.map Ver.cells)] = some [.bool (versOk l)] := by
  rw [retP, runD_eq find59 _ _ _ (by simp)]
  have hl := loop_versI d c l hs hsh 1099511627775 (by rw [prevs_len]; omega)
  rw [vers_same l none (fun w h => by cases h)] at hl
  simp -implicitDefEqProofs (disch := omega) only [go_sem, Nat.reduceBEq, Nat.reduceAdd, Nat.reduceSub, Nat.reduceMul, Nat.reduceLeDiff, Nat.reduceEqDiff, Nat.reduceLT, Int.reduceNeg, Int.reduceAdd, Int.reduceSub, Int.reduceMul, Int.reduceLE, Int.reduceLT, Int.reduceEq, Int.reduceToNat, reduceCtorEq]
  rw [hl]
  unfold versOk
  cases h : (prevs none l).all (okBy ordS)
  · simp -implicitDefEqProofs (disch := omega) only [go_sem, Nat.reduceBEq, Nat.reduceAdd, Nat.reduceSub, Nat.reduceMul, Nat.reduceLeDiff, Nat.reduceEqDiff, Nat.reduceLT, Int.reduceNeg, Int.reduceAdd, Int.reduceSub, Int.reduceMul, Int.reduceLE, Int.reduceLT, Int.reduceEq, Int.reduceToNat, reduceCtorEq]
  · by_cases h60 : (l.length : Int) ≤ 60 <;> simp -implicitDefEqProofs (disch := omega) only [go_sem, Nat.reduceBEq, Nat.reduceAdd, Nat.reduceSub, Nat.reduceMul, Nat.reduceLeDiff, Nat.reduceEqDiff, Nat.reduceLT, Int.reduceNeg, Int.reduceAdd, Int.reduceSub, Int.reduceMul, Int.reduceLE, Int.reduceLT, Int.reduceEq, Int.reduceToNat, reduceCtorEq, h60]
end Go.Proofs.Ytnnjpiepoeknnaa.PE
/- The version that a key has at a time: the program's. -/
set_option linter.unusedVariables false
set_option linter.unusedSimpArgs false
set_option maxHeartbeats 4000000
namespace Go.Proofs.Ytnnjpiepoeknnaa.PE
open Go.RowKit

def Ver.at (key time : Int) (v : Ver) : Bool := decide (v.key = key) && (decide (v.born ≤ time) && (decide (v.died = 0) || decide (time < v.died)))
def Ver.zero : Ver := ⟨0, 0, 0, ⟨true, []⟩⟩
def seenO (o : Option Ver) : Out := match o with
  | some v => some (.ret, [(6, .ptr 0 0 0 0), (7, .bool true)], [.box v.cells])
  | none => some (.exit 0, [(6, .ptr 0 0 0 0), (7, .undef)], [.box Ver.zero.cells])
theorem loop_seen (d : Nat) (c : Bool) (l : List Ver) (key time : Int) (hs : l.length < 1099511627776) (K : Nat) (hK : l.length ≤ K) :
    LoopS (runD tab noExt d) (drawI (runD tab noExt d)) [1, 2, 6, 10, 11, 12] [6, 7] L108x0 1 K [(1, .int .i64 key), (2, .int .i64 time), (6, .ptr 0 0 0 0), (10, .sl c 4 (l.map Ver.cells)), (11, .int .i64 l.length), (12, .int .i64 0)] [.box Ver.zero.cells] = seenO (l.find? (Ver.at key time)) := by
  have key1 := LoopS_rec (run := runD tab noExt d) (draw := drawI (runD tab noExt d)) (live := [1, 2, 6, 10, 11, 12]) (out := [6, 7]) (c := L108x0) (n0 := 1) l (fun (i : Nat) (_ : Unit) => [(1, .int .i64 key), (2, .int .i64 time), (6, .ptr 0 0 0 0), (10, .sl c 4 (l.map Ver.cells)), (11, .int .i64 l.length), (12, .int .i64 (i : Int))]) (fun _ _ => [.box Ver.zero.cells])
    (fun r _ => seenO (r.find? (Ver.at key time))) (fun _ K => ?_) (fun (i : Nat) v r _ K hi hx hr ih => ?_) K hK ()
  · simp only [Int.natCast_zero] at key1
    exact key1
  · rw [LoopS_eq]
    simp -implicitDefEqProofs only [go_sem, Nat.reduceBEq, Nat.reduceAdd, Nat.reduceSub, Nat.reduceMul, Nat.reduceLeDiff, Nat.reduceEqDiff, Nat.reduceLT, Int.reduceNeg, Int.reduceAdd, Int.reduceSub, Int.reduceMul, Int.reduceLE, Int.reduceLT, Int.reduceEq, Int.reduceToNat, reduceCtorEq, evL108x0, B108x0, Int.lt_irrefl, List.find?_nil, seenO]
  · have ih' := ih ()
    simp only [Int.natCast_add, Int.natCast_one, Ver.cells, Row.v, Ver.zero, List.map_nil] at ih'
    rw [LoopS_eq, List.find?_cons]
    have h5 : ¬ v.key = key ∨ (v.key = key ∧ ¬ v.born ≤ time) ∨ (v.key = key ∧ v.born ≤ time ∧ v.died = 0) ∨ (v.key = key ∧ v.born ≤ time ∧ ¬ v.died = 0 ∧ time < v.died) ∨ (v.key = key ∧ v.born ≤ time ∧ ¬ v.died = 0 ∧ ¬ time < v.died) := by omega
    rcases h5 with h1 | ⟨h1, h2⟩ | ⟨h1, h2, h3⟩ | ⟨h1, h2, h3, h4⟩ | ⟨h1, h2, h3, h4⟩
    · have e : Ver.at key time v = false := by simp [Ver.at, h1]
      rw [e]
      simp -implicitDefEqProofs (disch := omega) only [go_sem, Nat.reduceBEq, Nat.reduceAdd, Nat.reduceSub, Nat.reduceMul, Nat.reduceLeDiff, Nat.reduceEqDiff, Nat.reduceLT, Int.reduceNeg, Int.reduceAdd, Int.reduceSub, Int.reduceMul, Int.reduceLE, Int.reduceLT, Int.reduceEq, Int.reduceToNat, reduceCtorEq, evL108x0, B108x0, hi, hx, Ver.cells, Row.v, Ver.zero, IntWalk.i64_in, (eq_false h1 : (v.key = key) = False)]
      exact ih'
    · have e : Ver.at key time v = false := by simp [Ver.at, h1, h2]
      rw [e]
      simp -implicitDefEqProofs (disch := omega) only [go_sem, Nat.reduceBEq, Nat.reduceAdd, Nat.reduceSub, Nat.reduceMul, Nat.reduceLeDiff, Nat.reduceEqDiff, Nat.reduceLT, Int.reduceNeg, Int.reduceAdd, Int.reduceSub, Int.reduceMul, Int.reduceLE, Int.reduceLT, Int.reduceEq, Int.reduceToNat, reduceCtorEq, evL108x0, B108x0, hi, hx, Ver.cells, Row.v, Ver.zero, IntWalk.i64_in, (eq_true h1 : (v.key = key) = True), (eq_false h2 : (v.born ≤ time) = False)]
      exact ih'
    · have e : Ver.at key time v = true := by simp [Ver.at, h1, h2, h3]
      rw [e]
      simp -implicitDefEqProofs (disch := omega) only [go_sem, Nat.reduceBEq, Nat.reduceAdd, Nat.reduceSub, Nat.reduceMul, Nat.reduceLeDiff, Nat.reduceEqDiff, Nat.reduceLT, Int.reduceNeg, Int.reduceAdd, Int.reduceSub, Int.reduceMul, Int.reduceLE, Int.reduceLT, Int.reduceEq, Int.reduceToNat, reduceCtorEq, evL108x0, B108x0, hi, hx, Ver.cells, Row.v, Ver.zero, IntWalk.i64_in, (eq_true h1 : (v.key = key) = True), (eq_true h2 : (v.born ≤ time) = True), (eq_true h3 : (v.died = 0) = True), seenO]
    · have e : Ver.at key time v = true := by simp [Ver.at, h1, h2, h3, h4]
      rw [e]
      simp -implicitDefEqProofs (disch := omega) only [go_sem, Nat.reduceBEq, Nat.reduceAdd, Nat.reduceSub, Nat.reduceMul, Nat.reduceLeDiff, Nat.reduceEqDiff, Nat.reduceLT, Int.reduceNeg, Int.reduceAdd, Int.reduceSub, Int.reduceMul, Int.reduceLE, Int.reduceLT, Int.reduceEq, Int.reduceToNat, reduceCtorEq, evL108x0, B108x0, hi, hx, Ver.cells, Row.v, Ver.zero, IntWalk.i64_in, (eq_true h1 : (v.key = key) = True), (eq_true h2 : (v.born ≤ time) = True), (eq_false h3 : (v.died = 0) = False), (eq_true h4 : (time < v.died) = True), Bool.false_or, seenO]
    · have e : Ver.at key time v = false := by simp [Ver.at, h1, h2, h3, h4]
      rw [e]
      simp -implicitDefEqProofs (disch := omega) only [go_sem, Nat.reduceBEq, Nat.reduceAdd, Nat.reduceSub, Nat.reduceMul, Nat.reduceLeDiff, Nat.reduceEqDiff, Nat.reduceLT, Int.reduceNeg, Int.reduceAdd, Int.reduceSub, Int.reduceMul, Int.reduceLE, Int.reduceLT, Int.reduceEq, Int.reduceToNat, reduceCtorEq, evL108x0, B108x0, hi, hx, Ver.cells, Row.v, Ver.zero, IntWalk.i64_in, (eq_true h1 : (v.key = key) = True), (eq_true h2 : (v.born ≤ time) = True), (eq_false h3 : (v.died = 0) = False), (eq_false h4 : (time < v.died) = False), Bool.false_or]
      exact ih'
-- find108
theorem run_seen (d : Nat) (c : Bool) (l : List Ver) (key time : Int) (hs : l.length < 1099511627776) : retP (runD tab noExt (d + 1)) 108 [.sl c 4 (l.map Ver.cells), .int .i64 key, .int .i64 time] = some [.agg ((l.find? (Ver.at key time)).getD Ver.zero).cells, .bool (l.find? (Ver.at key time)).isSome] := by
  rw [retP, runD_eq find108 _ _ _ (by simp)]
  have hl := loop_seen d c l key time hs 1099511627775 (by omega)
  simp only [Ver.cells, Ver.zero, Row.v, List.map_nil] at hl
  simp -implicitDefEqProofs (disch := omega) only [go_sem, Nat.reduceBEq, Nat.reduceAdd, Nat.reduceSub, Nat.reduceMul, Nat.reduceLeDiff, Nat.reduceEqDiff, Nat.reduceLT, Int.reduceNeg, Int.reduceAdd, Int.reduceSub, Int.reduceMul, Int.reduceLE, Int.reduceLT, Int.reduceEq, Int.reduceToNat, reduceCtorEq]
  rw [hl]
  cases h : l.find? (Ver.at key time) with
  | none => simp -implicitDefEqProofs only [go_sem, Nat.reduceBEq, Nat.reduceAdd, Nat.reduceSub, Nat.reduceMul, Nat.reduceLeDiff, Nat.reduceEqDiff, Nat.reduceLT, Int.reduceNeg, Int.reduceAdd, Int.reduceSub, Int.reduceMul, Int.reduceLE, Int.reduceLT, Int.reduceEq, Int.reduceToNat, reduceCtorEq, seenO, Ver.cells, Ver.zero, Row.v, Option.getD_none, Option.isSome_none]
  | some v => simp -implicitDefEqProofs only [go_sem, Nat.reduceBEq, Nat.reduceAdd, Nat.reduceSub, Nat.reduceMul, Nat.reduceLeDiff, Nat.reduceEqDiff, Nat.reduceLT, Int.reduceNeg, Int.reduceAdd, Int.reduceSub, Int.reduceMul, Int.reduceLE, Int.reduceLT, Int.reduceEq, Int.reduceToNat, reduceCtorEq, seenO, Ver.cells, Ver.zero, Row.v, Option.getD_some, Option.isSome_some]
end Go.Proofs.Ytnnjpiepoeknnaa.PE
/- The row that a key has at a time: the reference's. -/
set_option linter.unusedVariables false
set_option linter.unusedSimpArgs false
set_option maxHeartbeats 4000000
namespace Go.Proofs.Ytnnjpiepoeknnaa.PE
open Go.RowKit

-- find126
theorem run_own3 (d : Nat) (c : Bool) (l : List (List V)) (hl : l.length < 4294967296) : retP (runD tab noExt (d + 1)) 126 [.sl c 3 l] = some [.sl false 3 l] := by
  rw [retP, runD_eq find126 _ _ _ (by simp)]
  have hl' : 0 + l.length < 4294967296 := by omega
  simp -implicitDefEqProofs (disch := omega) only [go_sem, Nat.reduceBEq, Nat.reduceAdd, Nat.reduceSub, Nat.reduceMul, Nat.reduceLeDiff, Nat.reduceEqDiff, Nat.reduceLT, Int.reduceNeg, Int.reduceAdd, Int.reduceSub, Int.reduceMul, Int.reduceLE, Int.reduceLT, Int.reduceEq, Int.reduceToNat, reduceCtorEq, List.take_length, hl, hl']
-- find168
theorem run_seen1 (d : Nat) (a b e : Int) (x : V) (time : Int) : retP (runD tab noExt (d + 1)) 168 [.agg [.int .i64 a, .int .i64 b, .int .i64 e, x], .int .i64 time] = some [.bool (decide (b ≤ time) && (decide (e = 0) || decide (time < e)))] := by
  rw [retP, runD_eq find168 _ _ _ (by simp)]
  have h5 : ¬ b ≤ time ∨ (b ≤ time ∧ e = 0) ∨ (b ≤ time ∧ ¬ e = 0) := by omega
  rcases h5 with h2 | ⟨h2, h3⟩ | ⟨h2, h3⟩
  · simp -implicitDefEqProofs (disch := omega) only [go_sem, Nat.reduceBEq, Nat.reduceAdd, Nat.reduceSub, Nat.reduceMul, Nat.reduceLeDiff, Nat.reduceEqDiff, Nat.reduceLT, Int.reduceNeg, Int.reduceAdd, Int.reduceSub, Int.reduceMul, Int.reduceLE, Int.reduceLT, Int.reduceEq, Int.reduceToNat, reduceCtorEq, (eq_false h2 : (b ≤ time) = False)]
  · simp -implicitDefEqProofs (disch := omega) only [go_sem, Nat.reduceBEq, Nat.reduceAdd, Nat.reduceSub, Nat.reduceMul, Nat.reduceLeDiff, Nat.reduceEqDiff, Nat.reduceLT, Int.reduceNeg, Int.reduceAdd, Int.reduceSub, Int.reduceMul, Int.reduceLE, Int.reduceLT, Int.reduceEq, Int.reduceToNat, reduceCtorEq, (eq_true h2 : (b ≤ time) = True), (eq_true h3 : (e = 0) = True), Bool.true_or]
  · simp -implicitDefEqProofs (disch := omega) only [go_sem, Nat.reduceBEq, Nat.reduceAdd, Nat.reduceSub, Nat.reduceMul, Nat.reduceLeDiff, Nat.reduceEqDiff, Nat.reduceLT, Int.reduceNeg, Int.reduceAdd, Int.reduceSub, Int.reduceMul, Int.reduceLE, Int.reduceLT, Int.reduceEq, Int.reduceToNat, reduceCtorEq, (eq_true h2 : (b ≤ time) = True), (eq_false h3 : (e = 0) = False), Bool.false_or]
def seenS (o : Option Ver) : Out := match o with
  | some v => some (.ret, [(6, .sl false 3 (v.row.vs.map Val.cells)), (7, .bool true)], [])
  | none => some (.exit 0, [(6, .undef), (7, .undef)], [])
theorem loop_seenS (d : Nat) (c : Bool) (l : List Ver) (key time : Int) (hs : l.length < 1099511627776) (hsh : ShortVs l) (hfn : ∀ v ∈ l, v.row.vs.length < 4294967296) (hok : versOk l = true) (K : Nat) (hK : l.length ≤ K) :
    LoopS (runD tab noExt (d + 5)) (drawI (runD tab noExt (d + 5))) [0, 1, 2, 8] [6, 7] L111x0 0 K [(0, .sl c 4 (l.map Ver.cells)), (1, .int .i64 key), (2, .int .i64 time), (8, .int .i64 0)] [] = seenS (l.find? (Ver.at key time)) := by
  have hv := run_versS d c l hs hsh
  rw [hok] at hv
  have key1 := LoopS_rec (run := runD tab noExt (d + 5)) (draw := drawI (runD tab noExt (d + 5))) (live := [0, 1, 2, 8]) (out := [6, 7]) (c := L111x0) (n0 := 0) l (fun (i : Nat) (_ : Unit) => [(0, .sl c 4 (l.map Ver.cells)), (1, .int .i64 key), (2, .int .i64 time), (8, .int .i64 (i : Int))]) (fun _ _ => [])
    (fun r _ => seenS (r.find? (Ver.at key time))) (fun _ K => ?_) (fun (i : Nat) v r _ K hi hx hr ih => ?_) K hK ()
  · simp only [Int.natCast_zero] at key1
    exact key1
  · rw [LoopS_eq]
    simp -implicitDefEqProofs only [go_sem, Nat.reduceBEq, Nat.reduceAdd, Nat.reduceSub, Nat.reduceMul, Nat.reduceLeDiff, Nat.reduceEqDiff, Nat.reduceLT, Int.reduceNeg, Int.reduceAdd, Int.reduceSub, Int.reduceMul, Int.reduceLE, Int.reduceLT, Int.reduceEq, Int.reduceToNat, reduceCtorEq, evL111x0, B111x0, Int.lt_irrefl, List.find?_nil, seenS]
  · have ih' := ih ()
    simp only [Int.natCast_add, Int.natCast_one] at ih'
    have hown := run_own3 (d + 4) v.row.clip (v.row.vs.map Val.cells) (by have := hfn v (List.mem_of_getElem? hx); simpa using this)
    rw [LoopS_eq, List.find?_cons]
    by_cases h1 : v.key = key
    · cases h2 : (decide (v.born ≤ time) && (decide (v.died = 0) || decide (time < v.died)))
      · have e : Ver.at key time v = false := by unfold Ver.at; rw [h2, Bool.and_false]
        rw [e]
        simp -implicitDefEqProofs (disch := omega) only [go_sem, Nat.reduceBEq, Nat.reduceAdd, Nat.reduceSub, Nat.reduceMul, Nat.reduceLeDiff, Nat.reduceEqDiff, Nat.reduceLT, Int.reduceNeg, Int.reduceAdd, Int.reduceSub, Int.reduceMul, Int.reduceLE, Int.reduceLT, Int.reduceEq, Int.reduceToNat, reduceCtorEq, evL111x0, B111x0, hi, hx, hv, run_seen1, h2, Ver.cells, Row.v, IntWalk.i64_in, (eq_true h1 : (v.key = key) = True)]
        exact ih'
      · have e : Ver.at key time v = true := by unfold Ver.at; rw [h2, h1]; simp
        rw [e]
        simp -implicitDefEqProofs (disch := omega) only [go_sem, Nat.reduceBEq, Nat.reduceAdd, Nat.reduceSub, Nat.reduceMul, Nat.reduceLeDiff, Nat.reduceEqDiff, Nat.reduceLT, Int.reduceNeg, Int.reduceAdd, Int.reduceSub, Int.reduceMul, Int.reduceLE, Int.reduceLT, Int.reduceEq, Int.reduceToNat, reduceCtorEq, evL111x0, B111x0, hi, hx, hv, run_seen1, h2, hown, Ver.cells, Row.v, IntWalk.i64_in, (eq_true h1 : (v.key = key) = True), seenS]
    · have e : Ver.at key time v = false := by simp [Ver.at, h1]
      rw [e]
      simp -implicitDefEqProofs (disch := omega) only [go_sem, Nat.reduceBEq, Nat.reduceAdd, Nat.reduceSub, Nat.reduceMul, Nat.reduceLeDiff, Nat.reduceEqDiff, Nat.reduceLT, Int.reduceNeg, Int.reduceAdd, Int.reduceSub, Int.reduceMul, Int.reduceLE, Int.reduceLT, Int.reduceEq, Int.reduceToNat, reduceCtorEq, evL111x0, B111x0, hi, hx, hv, Ver.cells, Row.v, IntWalk.i64_in, (eq_false h1 : (v.key = key) = False)]
      exact ih'
/-- What a key has at a time. -/
def rowAt (l : List Ver) (key time : Int) : Option Ver := if versOk l then l.find? (Ver.at key time) else none
-- find111
theorem run_seenS (d : Nat) (c : Bool) (l : List Ver) (key time : Int) (hs : l.length < 1099511627776) (hsh : ShortVs l) (hfn : ∀ v ∈ l, v.row.vs.length < 4294967296) : retP (runD tab noExt (d + 6)) 111 [.sl c 4 (l.map Ver.cells), .int .i64 key, .int .i64 time] = some [.sl (rowAt l key time).isNone 3 (((rowAt l key time).getD Ver.zero).row.vs.map Val.cells), .bool (rowAt l key time).isSome] := by
  rw [retP, runD_eq find111 _ _ _ (by simp)]
  unfold rowAt
  cases hok : versOk l
  · have hv := run_versS d c l hs hsh
    rw [hok] at hv
    simp -implicitDefEqProofs (disch := omega) only [go_sem, Nat.reduceBEq, Nat.reduceAdd, Nat.reduceSub, Nat.reduceMul, Nat.reduceLeDiff, Nat.reduceEqDiff, Nat.reduceLT, Int.reduceNeg, Int.reduceAdd, Int.reduceSub, Int.reduceMul, Int.reduceLE, Int.reduceLT, Int.reduceEq, Int.reduceToNat, reduceCtorEq]
    rw [LoopS_eq]
    by_cases h0 : (0 : Int) < l.length
    · simp -implicitDefEqProofs (disch := omega) only [go_sem, Nat.reduceBEq, Nat.reduceAdd, Nat.reduceSub, Nat.reduceMul, Nat.reduceLeDiff, Nat.reduceEqDiff, Nat.reduceLT, Int.reduceNeg, Int.reduceAdd, Int.reduceSub, Int.reduceMul, Int.reduceLE, Int.reduceLT, Int.reduceEq, Int.reduceToNat, reduceCtorEq, evL111x0, B111x0, h0, hv, Option.getD_none, Option.isSome_none, Option.isNone_none, Ver.zero, List.map_nil]
    · simp -implicitDefEqProofs (disch := omega) only [go_sem, Nat.reduceBEq, Nat.reduceAdd, Nat.reduceSub, Nat.reduceMul, Nat.reduceLeDiff, Nat.reduceEqDiff, Nat.reduceLT, Int.reduceNeg, Int.reduceAdd, Int.reduceSub, Int.reduceMul, Int.reduceLE, Int.reduceLT, Int.reduceEq, Int.reduceToNat, reduceCtorEq, evL111x0, B111x0, h0, Option.getD_none, Option.isSome_none, Option.isNone_none, Ver.zero, List.map_nil]
  · have hl := loop_seenS d c l key time hs hsh hfn hok 1099511627775 (by omega)
    simp -implicitDefEqProofs (disch := omega) only [go_sem, Nat.reduceBEq, Nat.reduceAdd, Nat.reduceSub, Nat.reduceMul, Nat.reduceLeDiff, Nat.reduceEqDiff, Nat.reduceLT, Int.reduceNeg, Int.reduceAdd, Int.reduceSub, Int.reduceMul, Int.reduceLE, Int.reduceLT, Int.reduceEq, Int.reduceToNat, reduceCtorEq]
    rw [hl]
    cases h : l.find? (Ver.at key time) with
    | none => simp -implicitDefEqProofs only [go_sem, Nat.reduceBEq, Nat.reduceAdd, Nat.reduceSub, Nat.reduceMul, Nat.reduceLeDiff, Nat.reduceEqDiff, Nat.reduceLT, Int.reduceNeg, Int.reduceAdd, Int.reduceSub, Int.reduceMul, Int.reduceLE, Int.reduceLT, Int.reduceEq, Int.reduceToNat, reduceCtorEq, seenS, Ver.zero, List.map_nil, Option.getD_none, Option.isSome_none, Option.isNone_none]
    | some v => simp -implicitDefEqProofs only [go_sem, Nat.reduceBEq, Nat.reduceAdd, Nat.reduceSub, Nat.reduceMul, Nat.reduceLeDiff, Nat.reduceEqDiff, Nat.reduceLT, Int.reduceNeg, Int.reduceAdd, Int.reduceSub, Int.reduceMul, Int.reduceLE, Int.reduceLT, Int.reduceEq, Int.reduceToNat, reduceCtorEq, seenS, Option.getD_some, Option.isSome_some, Option.isNone_some]
end Go.Proofs.Ytnnjpiepoeknnaa.PE
/- The rows at a time: the reference's. -/
set_option linter.unusedVariables false
set_option linter.unusedSimpArgs false
set_option maxHeartbeats 4000000
namespace Go.Proofs.Ytnnjpiepoeknnaa.PE
open Go.RowKit

def keys5 : List Int := [0, 1, 2, 3, 4]
theorem keys_at {i : Nat} {x : Int} (h : keys5[i]? = some x) : x = i ∧ (i : Int) < 5 := by
  have hl : i < 5 := by
    have := (List.getElem?_eq_some_iff.1 h).1
    simpa [keys5] using this
  have h5 : i = 0 ∨ i = 1 ∨ i = 2 ∨ i = 3 ∨ i = 4 := by omega
  rcases h5 with rfl | rfl | rfl | rfl | rfl <;> simp [keys5] at h <;> subst h <;> simp
theorem keys5_len : ((keys5.length : Nat) : Int) = 5 := rfl
def addRow (l : List Ver) (time : Int) (b : List Row) (k : Int) : List Row := if (rowAt l k time).isSome then b ++ [⟨false, ((rowAt l k time).getD Ver.zero).row.vs⟩] else b
theorem addRow_len {l : List Ver} {time k : Int} {b : List Row} {i : Nat} (h : b.length ≤ i) : (addRow l time b k).length ≤ i + 1 := by
  unfold addRow
  split
  · simp; omega
  · omega
def rowsAtV (l : List Ver) (time : Int) : List Row := keys5.foldl (addRow l time) []
/-- What a key has at a time, as values. -/
def rowV (l : List Ver) (k time : Int) : Option (List Val) := (rowAt l k time).map fun v => v.row.vs
theorem rowsAtV_eq (l : List Ver) (time : Int) : rowsAtV l time = (keys5.filterMap fun k => rowV l k time).map (Row.mk false) := by
  have key : ∀ (ks : List Int) (b : List Row), ks.foldl (addRow l time) b = b ++ (ks.filterMap fun k => rowV l k time).map (Row.mk false) := by
    intro ks
    induction ks with
    | nil => intro b; simp
    | cons k ks ih =>
      intro b
      rw [List.foldl_cons, ih]
      unfold addRow rowV
      cases h : rowAt l k time <;> simp [h, rowV]
  rw [rowsAtV, key]
  rfl
theorem loop_rowsAtS (d : Nat) (c : Bool) (l : List Ver) (time : Int) (hs : l.length < 1099511627776) (hsh : ShortVs l) (hfn : ∀ v ∈ l, v.row.vs.length < 4294967296) (K : Nat) (hK : (keys5).length ≤ K) (b0 : List Row) (hb0 : (fun (i : Nat) (b : List Row) => b.length ≤ i) 0 b0) : LoopS (runD tab noExt (d + 6)) (drawI (runD tab noExt (d + 6))) [0, 1, 5, 6] [5] L44x0 ([.rows 0 1 [], .rows (b0).length 1 ((b0).map Row.cells)] : Heap).length K [(0, .sl c 4 (l.map Ver.cells)), (1, .int .i64 time), (5, .ref 1 (b0).length 0 (b0).length false), (6, .int .i64 (0 : Nat))] [.rows 0 1 [], .rows (b0).length 1 ((b0).map Row.cells)] = (some (.exit 0, [(5, .ref 1 (((keys5).foldl (addRow l time) b0)).length 0 (((keys5).foldl (addRow l time) b0)).length false)], [.rows 0 1 [], .rows (((keys5).foldl (addRow l time) b0)).length 1 ((((keys5).foldl (addRow l time) b0)).map Row.cells)]) : Out) ∧ (fun (i : Nat) (b : List Row) => b.length ≤ i) (keys5).length ((keys5).foldl (addRow l time) b0) := by
  have key := LoopS_foldI (run := (runD tab noExt (d + 6))) (draw := drawI (runD tab noExt (d + 6))) (live := [0, 1, 5, 6]) (out := [5]) (c := L44x0) (n0 := ([.rows 0 1 [], .rows (b0).length 1 ((b0).map Row.cells)] : Heap).length) (keys5) (addRow l time) (fun (i : Nat) (b : List Row) => b.length ≤ i) (fun (i : Nat) (b : List Row) => [(0, .sl c 4 (l.map Ver.cells)), (1, .int .i64 time), (5, .ref 1 (b).length 0 (b).length false), (6, .int .i64 (i : Nat))]) (fun (i : Nat) (b : List Row) => [.rows 0 1 [], .rows (b).length 1 ((b).map Row.cells)]) (fun b => (some (.exit 0, [(5, .ref 1 (b).length 0 (b).length false)], [.rows 0 1 [], .rows (b).length 1 ((b).map Row.cells)]) : Out)) (fun b K hb => ?_) (fun (i : Nat) (x : Int) b K hi hx hb => ?_) K hK b0 hb0
  · simp only [Int.natCast_zero] at key
    exact key
  · rw [LoopS_eq]
    simp -implicitDefEqProofs only [go_sem, Nat.reduceBEq, Nat.reduceAdd, Nat.reduceSub, Nat.reduceMul, Nat.reduceLeDiff, Nat.reduceEqDiff, Nat.reduceLT, Int.reduceNeg, Int.reduceAdd, Int.reduceSub, Int.reduceMul, Int.reduceLE, Int.reduceLT, Int.reduceEq, Int.reduceToNat, reduceCtorEq, evL44x0, B44x0, Int.lt_irrefl, keys5_len]
  · obtain ⟨rfl, hi5⟩ := keys_at hx; have hsm : b.length + 1 < 4294967296 := (by simp [keys5] at hi; omega); have hseen := run_seenS d c l (i : Int) time hs hsh hfn; cases hq : rowAt l (i : Int) time <;> simp only [hq, Option.isNone_none, Option.isNone_some, Option.isSome_none, Option.isSome_some, Option.getD_none, Option.getD_some] at hseen
    all_goals
      refine ⟨?_, ?_⟩
      · exact addRow_len hb
      · rw [LoopS_eq]
        simp -implicitDefEqProofs (disch := first | omega | assumption) only [go_sem, Nat.reduceBEq, Nat.reduceAdd, Nat.reduceSub, Nat.reduceMul, Nat.reduceLeDiff, Nat.reduceEqDiff, Nat.reduceLT, Int.reduceNeg, Int.reduceAdd, Int.reduceSub, Int.reduceMul, Int.reduceLE, Int.reduceLT, Int.reduceEq, Int.reduceToNat, reduceCtorEq, evL44x0, B44x0, hi, hx, IntWalk.i64_in, List.map_append, List.foldl_cons, keys5_len, hseen, hsm, hi5, Row.cells, Row.v]
        (simp -implicitDefEqProofs (disch := first | omega | assumption) only [go_sem, Nat.reduceBEq, Nat.reduceAdd, Nat.reduceSub, Nat.reduceMul, Nat.reduceLeDiff, Nat.reduceEqDiff, Nat.reduceLT, Int.reduceNeg, Int.reduceAdd, Int.reduceSub, Int.reduceMul, Int.reduceLE, Int.reduceLT, Int.reduceEq, Int.reduceToNat, reduceCtorEq, addRow, hq, hseen, Row.cells, Row.v, Option.isSome_none, Option.isSome_some, Option.getD_some, List.map_append, List.map_cons, List.map_nil, IntWalk.i64_in])
-- find44
theorem run_rowsAtS (d : Nat) (c : Bool) (l : List Ver) (time : Int) (hs : l.length < 1099511627776) (hsh : ShortVs l) (hfn : ∀ v ∈ l, v.row.vs.length < 4294967296) : retP (runD tab noExt (d + 7)) 44 [.sl c 4 (l.map Ver.cells), .int .i64 time] = some [.sl false 1 ((rowsAtV l time).map Row.cells)] := by
  rw [retP, runD_eq find44 _ _ _ (by simp)]
  obtain ⟨hl, _⟩ := loop_rowsAtS d c l time hs hsh hfn 1099511627775 (by simp [keys5]) [] (by simp)
  have e : List.take (rowsAtV l time).length ((rowsAtV l time).map Row.cells) = (rowsAtV l time).map Row.cells := List.take_of_length_le (by simp)
  simp only [List.length_nil, List.map_nil, Int.natCast_zero] at hl
  simp -implicitDefEqProofs (disch := omega) only [go_sem, Nat.reduceBEq, Nat.reduceAdd, Nat.reduceSub, Nat.reduceMul, Nat.reduceLeDiff, Nat.reduceEqDiff, Nat.reduceLT, Int.reduceNeg, Int.reduceAdd, Int.reduceSub, Int.reduceMul, Int.reduceLE, Int.reduceLT, Int.reduceEq, Int.reduceToNat, reduceCtorEq]
  simp -implicitDefEqProofs only [go_sem, Nat.reduceBEq, Nat.reduceAdd, Nat.reduceSub, Nat.reduceMul, Nat.reduceLeDiff, Nat.reduceEqDiff, Nat.reduceLT, Int.reduceNeg, Int.reduceAdd, Int.reduceSub, Int.reduceMul, Int.reduceLE, Int.reduceLT, Int.reduceEq, Int.reduceToNat, reduceCtorEq] at hl
  rw [hl]
  simp -implicitDefEqProofs (disch := omega) only [go_sem, Nat.reduceBEq, Nat.reduceAdd, Nat.reduceSub, Nat.reduceMul, Nat.reduceLeDiff, Nat.reduceEqDiff, Nat.reduceLT, Int.reduceNeg, Int.reduceAdd, Int.reduceSub, Int.reduceMul, Int.reduceLE, Int.reduceLT, Int.reduceEq, Int.reduceToNat, reduceCtorEq]
  first | rfl | (unfold rowsAtV; rfl) | (unfold rowsAtV at e ⊢; rw [e])
end Go.Proofs.Ytnnjpiepoeknnaa.PE
/- Versions as trees: what their sizes say, that only their values matter. -/
set_option linter.unusedVariables false
set_option linter.unusedSimpArgs false
set_option maxHeartbeats 4000000
namespace Go.Proofs.Ytnnjpiepoeknnaa.PE
open Go.RowKit

def verU (v : Ver) : List U := [.int v.key, .int v.born, .int v.died, .sub (v.row.vs.map valU)]
def Ver.plain (v : Ver) : Ver := ⟨v.key, v.born, v.died, ⟨false, v.row.vs⟩⟩
theorem vals_each {y : List (List U)} {p : V} (h : PurF (.sub fdValue) p (.sub y)) : ∃ (r : Row), p = r.v ∧ y = r.vs.map valU := by
  obtain ⟨cl, ct, rfl, hz⟩ := purS_Value h
  obtain ⟨vs, rfl, rfl⟩ := valsU_of hz
  exact ⟨⟨cl, vs⟩, rfl, rfl⟩
theorem versU_of {l1 : List (List V)} {l2 : List (List U)} (h : Zip2 (PurR fdVersion) l1 l2) : ∃ vs : List Ver, l1 = vs.map Ver.cells ∧ l2 = vs.map verU :=
  typ_of (fun c x hr => by
    obtain ⟨a0, a1, a2, p3, y3, rfl, rfl, g⟩ := purR_Version hr
    obtain ⟨r, rfl, rfl⟩ := vals_each g
    exact ⟨⟨a0, a1, a2, r⟩, rfl, rfl⟩) h
theorem verU_inj {a b : Ver} (h : verU a = verU b) : a.plain = b.plain := by
  simp only [verU, List.cons.injEq, U.int.injEq, U.sub.injEq, and_true] at h
  obtain ⟨h1, h2, h3, h4⟩ := h
  have := map_inj (fun _ _ => valU_inj) h4
  simp only [Ver.plain, h1, h2, h3, this]
theorem plain_of : ∀ {a b : List Ver}, a.map verU = b.map verU → a.map Ver.plain = b.map Ver.plain
  | [], [], _ => rfl
  | x :: a, y :: b, h => by
    simp only [List.map_cons, List.cons.injEq] at h
    rw [List.map_cons, List.map_cons, verU_inj h.1, plain_of h.2]
  | [], _ :: _, h => by simp at h
  | _ :: _, [], h => by simp at h
theorem vers_each {l : List Ver} {q : V} (k : PurF (.sub fdVersion) q (.sub (l.map verU))) : ∃ (c : Bool) (l2 : List Ver), q = .sl c 4 (l2.map Ver.cells) ∧ l2.map verU = l.map verU := by
  obtain ⟨c, _, rfl, y0⟩ := purS_Version k
  obtain ⟨l', rfl, e0⟩ := versU_of y0
  exact ⟨c, l', rfl, e0.symm⟩
theorem ver_pur (v : Ver) : PurR fdVersion v.cells (verU v) := purR_mk_Version (pur_map val_pur _ 3 rfl _)
theorem prevs_plain : ∀ (l : List Ver) (o : Option Ver), prevs (o.map Ver.plain) (l.map Ver.plain) = (prevs o l).map fun p => (p.1.map Ver.plain, p.2.plain)
  | [], _ => rfl
  | v :: r, o => by
    have := prevs_plain r (some v)
    simp only [Option.map_some] at this
    simp only [List.map_cons, prevs, this]
theorem versOk_plain (l : List Ver) : versOk (l.map Ver.plain) = versOk l := by
  have := prevs_plain l none
  simp only [Option.map_none] at this
  unfold versOk
  rw [this, List.all_map, List.length_map]
  congr 2
  funext p
  obtain ⟨o, v⟩ := p
  cases o <;> rfl
theorem find_plain (k t : Int) : ∀ (l : List Ver), (l.map Ver.plain).find? (Ver.at k t) = (l.find? (Ver.at k t)).map Ver.plain
  | [] => rfl
  | v :: r => by
    have e : Ver.at k t v.plain = Ver.at k t v := rfl
    rw [List.map_cons, List.find?_cons, List.find?_cons, e, find_plain k t r]
    cases Ver.at k t v <;> rfl
theorem rowV_plain (l : List Ver) (k t : Int) : rowV (l.map Ver.plain) k t = rowV l k t := by
  unfold rowV rowAt
  rw [versOk_plain, find_plain]
  cases versOk l
  · rfl
  · simp only [if_true, Option.map_map]
    rfl
theorem rowV_vs {a b : List Ver} (h : a.map verU = b.map verU) (k t : Int) : rowV a k t = rowV b k t := by rw [← rowV_plain a, ← rowV_plain b, plain_of h]
theorem versOk_vs {a b : List Ver} (h : a.map verU = b.map verU) : versOk a = versOk b := by rw [← versOk_plain a, ← versOk_plain b, plain_of h]
/-- What a size says of versions. -/
theorem vers_lim {l : List Ver} (L : LenF 1048576 1048576 (.sub fdVersion) (.sub (l.map verU))) : l.length ≤ 1048576 ∧ (∀ v ∈ l, v.row.vs.length ≤ 1048576 ∧ ∀ w ∈ v.row.vs, w.s.size ≤ 1048576) := by
  simp only [LenF, List.length_map] at L
  refine ⟨L.1, fun v hv => ?_⟩
  obtain ⟨i, hi⟩ := List.getElem?_of_mem hv
  have := AllU_at L.2 (map_at verU hi)
  simp only [fdVersion, verU, LenR, LenF, List.length_map, true_and, and_true] at this
  refine ⟨this.1, fun w hw => ?_⟩
  obtain ⟨j, hj⟩ := List.getElem?_of_mem hw
  have := AllU_at this.2 (map_at valU hj)
  simp only [fdValue, valU, LenR, LenF, true_and, and_true] at this
  exact this
theorem vers_lims {a b : List Ver} (e : a.map verU = b.map verU) (L : LenF 1048576 1048576 (.sub fdVersion) (.sub (b.map verU))) : a.length ≤ 1048576 ∧ ShortVs a ∧ (∀ v ∈ a, v.row.vs.length < 4294967296) ∧ (∀ v ∈ a, v.row.vs.length ≤ 1048576 ∧ ∀ w ∈ v.row.vs, w.s.size ≤ 1048576) := by
  rw [← e] at L
  obtain ⟨h1, h2⟩ := vers_lim L
  exact ⟨h1, fun v hv => ⟨by have := (h2 v hv).1; omega, fun w hw => by have := (h2 v hv).2 w hw; omega⟩, fun v hv => by have := (h2 v hv).1; omega, h2⟩
/-- What a key has comes from a version. -/
theorem rowV_mem {l : List Ver} {k t : Int} {vs : List Val} (h : rowV l k t = some vs) : ∃ v ∈ l, v.row.vs = vs := by
  unfold rowV rowAt at h
  split at h
  · obtain ⟨v, hv, rfl⟩ := Option.map_eq_some_iff.1 h
    exact ⟨v, List.mem_of_find?_eq_some hv, rfl⟩
  · cases h
end Go.Proofs.Ytnnjpiepoeknnaa.PE
/- Copies of rows, and whether lists of rows are the same. -/
set_option linter.unusedSimpArgs false
set_option linter.unusedVariables false
set_option maxHeartbeats 4000000
namespace Go.Proofs.Ytnnjpiepoeknnaa.PE
open Go.RowKit

theorem clipkVal (d : Nat) (l : List (List V)) (n : Nat) (hn : n = l.length) : callX (runD tab noExt (d + 1)) [.rows 0 3 l] 2 169 [.ref 0 0 0 n false] = some (.ref 0 0 0 n true, [.rows 0 3 l]) := by
  subst hn
  simp only [callX, callK]
  rw [runD_eq find169 _ _ _ (by simp)]
  simp -implicitDefEqProofs (disch := omega) only [go_sem, Nat.reduceBEq, Nat.reduceAdd, Nat.reduceSub, Nat.reduceMul, Nat.reduceLeDiff, Nat.reduceEqDiff, Nat.reduceLT, Int.reduceNeg, Int.reduceAdd, Int.reduceSub, Int.reduceMul, Int.reduceLE, Int.reduceLT, Int.reduceEq, Int.reduceToNat, reduceCtorEq, List.take_length, Bool.true_or, resOk]
theorem runcVal (d : Nat) (c : Bool) (l : List (List V)) (h0 : 0 < l.length) (hl : l.length < 4294967296) : runD tab noExt (d + 2) 112 [.sl c 3 l] [] = some ([.ref 0 0 0 l.length true], [.rows 0 3 l]) := by
  rw [runD_eq find112 _ _ _ (by simp)]
  match l, h0, hl with
  | [], h0, _ => exact absurd h0 (by decide)
  | x :: r, _, hl =>
    have h0 : ((r.length : Int) + 1 = 0) = False := eq_false (by omega)
    have h1 : r.length + 1 < 4294967296 := by simpa using hl
    have hc := clipkVal d (x :: r) (r.length + 1) (by simp)
    simp -implicitDefEqProofs (disch := omega) only [go_sem, Nat.reduceBEq, Nat.reduceAdd, Nat.reduceSub, Nat.reduceMul, Nat.reduceLeDiff, Nat.reduceEqDiff, Nat.reduceLT, Int.reduceNeg, Int.reduceAdd, Int.reduceSub, Int.reduceMul, Int.reduceLE, Int.reduceLT, Int.reduceEq, Int.reduceToNat, reduceCtorEq, List.length_cons, h0, h1, hc]
theorem runnVal (d : Nat) (c : Bool) : runD tab noExt (d + 2) 112 [.sl c 3 []] [] = some ([.sl true 3 []], []) := by
  rw [runD_eq find112 _ _ _ (by simp)]
  simp -implicitDefEqProofs (disch := omega) only [go_sem, Nat.reduceBEq, Nat.reduceAdd, Nat.reduceSub, Nat.reduceMul, Nat.reduceLeDiff, Nat.reduceEqDiff, Nat.reduceLT, Int.reduceNeg, Int.reduceAdd, Int.reduceSub, Int.reduceMul, Int.reduceLE, Int.reduceLT, Int.reduceEq, Int.reduceToNat, reduceCtorEq]
theorem cloneVal (d : Nat) (c : Bool) (l : List (List V)) (hl : l.length < 4294967296) : retP (runD tab noExt (d + 2)) 112 [.sl c 3 l] = some [.sl true 3 l] := by
  match l, hl with
  | [], _ => rw [retP, runnVal]; rfl
  | x :: r, hl =>
    rw [retP, runcVal d c (x :: r) (by simp) hl]
    simp -implicitDefEqProofs only [go_sem, Nat.reduceBEq, Nat.reduceAdd, Nat.reduceSub, Nat.reduceMul, Nat.reduceLeDiff, Nat.reduceEqDiff, Nat.reduceLT, Int.reduceNeg, Int.reduceAdd, Int.reduceSub, Int.reduceMul, Int.reduceLE, Int.reduceLT, Int.reduceEq, Int.reduceToNat, reduceCtorEq, List.take_length]
theorem clonexVal (d : Nat) (h : Heap) (c : Bool) (l : List (List V)) (h0 : 0 < l.length) (hl : l.length < 4294967296) (hf : l.all (fun x => x.all freshC) = true) : callX (runD tab noExt (d + 2)) h 0 112 [.sl c 3 l] = some (.ref h.length 0 0 l.length true, h ++ [.rows 0 3 l]) := by
  simp only [callX, callO, pureDAs, mapO, pureDA, pureD, deepest, runcVal d c l h0 hl, BackO, List.all_cons, List.all_nil, scalarA, scalar, freshA, freshC, Bool.false_eq_true, Bool.false_and, Bool.and_self, if_false, if_true, List.map_cons, List.map_nil, oneOf, shA, shC, Nat.zero_add, movedH, clean, hf, shB]
theorem clonenVal (d : Nat) (h : Heap) (c : Bool) : callX (runD tab noExt (d + 2)) h 0 112 [.sl c 3 []] = some (.sl true 3 [], h) := by
  simp only [callX, callO, pureDAs, mapO, pureDA, pureD, deepest, runnVal d c, BackO, List.all_cons, List.all_nil, scalarA, scalar, freshA, freshC, isNil, Bool.false_eq_true, Bool.false_and, Bool.and_self, if_false, if_true, List.map_cons, List.map_nil, oneOf, shA, shC, movedH, List.append_nil]

/-- A row of one's own. -/
def Row.own (b : Bool) (r : Row) : Row := ⟨b, r.vs⟩
def own (b : Bool) (rs : List Row) : List Row := rs.map (Row.own b)
theorem foldl_snoc {α β : Type} (g : α → β) : ∀ (l : List α) (b : List β), l.foldl (fun b x => b ++ [g x]) b = b ++ l.map g
  | [], b => by simp
  | x :: r, b => by simp [foldl_snoc g r]
theorem lt_small {n m : Nat} {i : Nat} (h1 : n ≤ i) (h2 : (i : Int) < m) (h3 : m < 4294967296) : n + 1 < 4294967296 := by omega
def sameVs (a b : List Val) : Bool := decide (a = b)
theorem loop_sameRow (d : Nat) (c c' : Bool) (a b : List Val) (hs : a.length < 1099511627776) (hlen : a.length = b.length) (K : Nat) (hK : (a.zip b).length ≤ K) : LoopS (runD tab noExt d) (drawI (runD tab noExt d)) [0, 1, 5] [4] L110x0 ([] : Heap).length K [(0, .sl c 3 (a.map Val.cells)), (1, .sl c' 3 (b.map Val.cells)), (5, .int .i64 0)] [] = if (a.zip b).all (fun p => decide (p.1 = p.2)) then (some (.exit 0, [(4, .undef)], []) : Out) else (some (.ret, [(4, .bool false)], []) : Out) := by
  have key := LoopS_all (run := (runD tab noExt d)) (draw := drawI (runD tab noExt d)) (live := [0, 1, 5]) (out := [4]) (c := L110x0) (n0 := ([] : Heap).length) (a.zip b) (fun p => decide (p.1 = p.2)) (fun (i : Nat) => [(0, .sl c 3 (a.map Val.cells)), (1, .sl c' 3 (b.map Val.cells)), (5, .int .i64 i)]) [] (some (.exit 0, [(4, .undef)], []) : Out) (some (.ret, [(4, .bool false)], []) : Out) (fun K => ?_) (fun (i : Nat) (x : Val × Val) K hi hx => ?_) K hK
  · simp only [Int.natCast_zero] at key
    exact key
  · rw [LoopS_eq]
    simp -implicitDefEqProofs only [go_sem, Nat.reduceBEq, Nat.reduceAdd, Nat.reduceSub, Nat.reduceMul, Nat.reduceLeDiff, Nat.reduceEqDiff, Nat.reduceLT, Int.reduceNeg, Int.reduceAdd, Int.reduceSub, Int.reduceMul, Int.reduceLE, Int.reduceLT, Int.reduceEq, Int.reduceToNat, reduceCtorEq, evL110x0, B110x0, Int.lt_irrefl, List.length_zip, hlen, Nat.min_self, evC_draw, evD110x0, E110x0, Val.cells]
  · obtain ⟨g1, g2⟩ := List.getElem?_zip_eq_some.1 hx; rw [List.length_zip, hlen, Nat.min_self] at hi; obtain ⟨⟨k1, n1, s1⟩, ⟨k2, n2, s2⟩⟩ := x
    rw [LoopS_eq]
    simp -implicitDefEqProofs (disch := omega) only [go_sem, Nat.reduceBEq, Nat.reduceAdd, Nat.reduceSub, Nat.reduceMul, Nat.reduceLeDiff, Nat.reduceEqDiff, Nat.reduceLT, Int.reduceNeg, Int.reduceAdd, Int.reduceSub, Int.reduceMul, Int.reduceLE, Int.reduceLT, Int.reduceEq, Int.reduceToNat, reduceCtorEq, evL110x0, B110x0, hi, hx, IntWalk.i64_in, List.length_zip, hlen, Nat.min_self, evC_draw, evD110x0, E110x0, Val.cells, *]
    repeat' ((first | rw [GuardI_ndec] | rw [CondC_ndec] | rw [GuardQ_ndec] | rw [GuardI_dec] | rw [CondC_dec] | rw [GuardQ_dec] | rw [GuardI_nby] | rw [CondC_nby] | rw [GuardQ_nby] | rw [GuardQ_by] | rw [GuardI_by] | rw [CondC_by]) <;> split <;> simp -implicitDefEqProofs (disch := omega) only [go_sem, Nat.reduceBEq, Nat.reduceAdd, Nat.reduceSub, Nat.reduceMul, Nat.reduceLeDiff, Nat.reduceEqDiff, Nat.reduceLT, Int.reduceNeg, Int.reduceAdd, Int.reduceSub, Int.reduceMul, Int.reduceLE, Int.reduceLT, Int.reduceEq, Int.reduceToNat, reduceCtorEq, hi, hx, IntWalk.i64_in, List.length_zip, hlen, Nat.min_self, evC_draw, evD110x0, E110x0, Val.cells, *, *])
    all_goals first | rfl | (simp_all [Val.mk.injEq]; done) | (simp_all [Val.mk.injEq]; omega)
theorem zip_same {α : Type} [DecidableEq α] : ∀ (a b : List α), a.length = b.length → ((a.zip b).all fun p => decide (p.1 = p.2)) = decide (a = b)
  | [], [], _ => by simp
  | x :: a, y :: b, h => by
    have := zip_same a b (by simpa using h)
    simp only [List.zip_cons_cons, List.all_cons, this]
    by_cases h1 : x = y <;> by_cases h2 : a = b <;> simp [h1, h2]
  | [], _ :: _, h => by simp at h
  | _ :: _, [], h => by simp at h
-- find110
theorem run_sameRow (d : Nat) (c c' : Bool) (a b : List Val) (hs : a.length < 1099511627776) : retP (runD tab noExt (d + 1)) 110 [.sl c 3 (a.map Val.cells), .sl c' 3 (b.map Val.cells)] = some [.bool (decide (a = b))] := by
  rw [retP, runD_eq find110 _ _ _ (by simp)]
  by_cases hlen : a.length = b.length
  · have hl := loop_sameRow d c c' a b hs hlen 1099511627775 (by simp; omega)
    simp -implicitDefEqProofs only [go_sem, Nat.reduceBEq, Nat.reduceAdd, Nat.reduceSub, Nat.reduceMul, Nat.reduceLeDiff, Nat.reduceEqDiff, Nat.reduceLT, Int.reduceNeg, Int.reduceAdd, Int.reduceSub, Int.reduceMul, Int.reduceLE, Int.reduceLT, Int.reduceEq, Int.reduceToNat, reduceCtorEq, hlen] at hl ⊢
    rw [hl, zip_same a b hlen]
    by_cases h : a = b <;> simp -implicitDefEqProofs only [go_sem, Nat.reduceBEq, Nat.reduceAdd, Nat.reduceSub, Nat.reduceMul, Nat.reduceLeDiff, Nat.reduceEqDiff, Nat.reduceLT, Int.reduceNeg, Int.reduceAdd, Int.reduceSub, Int.reduceMul, Int.reduceLE, Int.reduceLT, Int.reduceEq, Int.reduceToNat, reduceCtorEq, h]
  · have h1 : ((a.length : Int) = b.length) = False := eq_false (by omega)
    have h2 : ¬ a = b := fun e => hlen (by rw [e])
    simp -implicitDefEqProofs only [go_sem, Nat.reduceBEq, Nat.reduceAdd, Nat.reduceSub, Nat.reduceMul, Nat.reduceLeDiff, Nat.reduceEqDiff, Nat.reduceLT, Int.reduceNeg, Int.reduceAdd, Int.reduceSub, Int.reduceMul, Int.reduceLE, Int.reduceLT, Int.reduceEq, Int.reduceToNat, reduceCtorEq, h1, h2]
def vss (rs : List Row) : List (List Val) := rs.map Row.vs
theorem loop_sameRows (d : Nat) (c c' : Bool) (a b : List Row) (hs : a.length < 1099511627776) (hsa : ∀ r ∈ a, r.vs.length < 1099511627776) (hlen : a.length = b.length) (K : Nat) (hK : (a.zip b).length ≤ K) : LoopS (runD tab noExt (d + 1)) (drawI (runD tab noExt (d + 1))) [0, 1, 5] [4] L43x0 ([] : Heap).length K [(0, .sl c 1 (a.map Row.cells)), (1, .sl c' 1 (b.map Row.cells)), (5, .int .i64 0)] [] = if (a.zip b).all (fun p => decide (p.1.vs = p.2.vs)) then (some (.exit 0, [(4, .undef)], []) : Out) else (some (.ret, [(4, .bool false)], []) : Out) := by
  have key := LoopS_all (run := (runD tab noExt (d + 1))) (draw := drawI (runD tab noExt (d + 1))) (live := [0, 1, 5]) (out := [4]) (c := L43x0) (n0 := ([] : Heap).length) (a.zip b) (fun p => decide (p.1.vs = p.2.vs)) (fun (i : Nat) => [(0, .sl c 1 (a.map Row.cells)), (1, .sl c' 1 (b.map Row.cells)), (5, .int .i64 i)]) [] (some (.exit 0, [(4, .undef)], []) : Out) (some (.ret, [(4, .bool false)], []) : Out) (fun K => ?_) (fun (i : Nat) (x : Row × Row) K hi hx => ?_) K hK
  · simp only [Int.natCast_zero] at key
    exact key
  · rw [LoopS_eq]
    simp -implicitDefEqProofs only [go_sem, Nat.reduceBEq, Nat.reduceAdd, Nat.reduceSub, Nat.reduceMul, Nat.reduceLeDiff, Nat.reduceEqDiff, Nat.reduceLT, Int.reduceNeg, Int.reduceAdd, Int.reduceSub, Int.reduceMul, Int.reduceLE, Int.reduceLT, Int.reduceEq, Int.reduceToNat, reduceCtorEq, evL43x0, B43x0, Int.lt_irrefl, List.length_zip, hlen, Nat.min_self, evC_draw, evD43x0, E43x0, Row.cells, Row.v]
  · obtain ⟨g1, g2⟩ := List.getElem?_zip_eq_some.1 hx; rw [List.length_zip, hlen, Nat.min_self] at hi; have hss := run_sameRow d x.1.clip x.2.clip x.1.vs x.2.vs (hsa _ (List.mem_of_getElem? g1))
    rw [LoopS_eq]
    simp -implicitDefEqProofs (disch := omega) only [go_sem, Nat.reduceBEq, Nat.reduceAdd, Nat.reduceSub, Nat.reduceMul, Nat.reduceLeDiff, Nat.reduceEqDiff, Nat.reduceLT, Int.reduceNeg, Int.reduceAdd, Int.reduceSub, Int.reduceMul, Int.reduceLE, Int.reduceLT, Int.reduceEq, Int.reduceToNat, reduceCtorEq, evL43x0, B43x0, hi, hx, IntWalk.i64_in, List.length_zip, hlen, Nat.min_self, evC_draw, evD43x0, E43x0, Row.cells, Row.v, *]
    repeat' ((first | rw [GuardI_ndec] | rw [CondC_ndec] | rw [GuardQ_ndec] | rw [GuardI_dec] | rw [CondC_dec] | rw [GuardQ_dec] | rw [GuardI_nby] | rw [CondC_nby] | rw [GuardQ_nby] | rw [GuardQ_by] | rw [GuardI_by] | rw [CondC_by]) <;> split <;> simp -implicitDefEqProofs (disch := omega) only [go_sem, Nat.reduceBEq, Nat.reduceAdd, Nat.reduceSub, Nat.reduceMul, Nat.reduceLeDiff, Nat.reduceEqDiff, Nat.reduceLT, Int.reduceNeg, Int.reduceAdd, Int.reduceSub, Int.reduceMul, Int.reduceLE, Int.reduceLT, Int.reduceEq, Int.reduceToNat, reduceCtorEq, hi, hx, IntWalk.i64_in, List.length_zip, hlen, Nat.min_self, evC_draw, evD43x0, E43x0, Row.cells, Row.v, *, *])
    all_goals first | rfl | (simp_all []; done) | (simp_all []; omega)
theorem zip_sames : ∀ (a b : List Row), a.length = b.length → ((a.zip b).all fun p => decide (p.1.vs = p.2.vs)) = decide (vss a = vss b)
  | [], [], _ => by simp
  | x :: a, y :: b, h => by
    have := zip_sames a b (by simpa using h)
    simp only [vss] at this
    simp only [List.zip_cons_cons, List.all_cons, this, vss, List.map_cons]
    by_cases h1 : x.vs = y.vs <;> by_cases h2 : a.map Row.vs = b.map Row.vs <;> simp [h1, h2]
  | [], _ :: _, h => by simp at h
  | _ :: _, [], h => by simp at h
-- find43
theorem run_sameRows (d : Nat) (c c' : Bool) (a b : List Row) (hs : a.length < 1099511627776) (hsa : ∀ r ∈ a, r.vs.length < 1099511627776) : retP (runD tab noExt (d + 2)) 43 [.sl c 1 (a.map Row.cells), .sl c' 1 (b.map Row.cells)] = some [.bool (decide (vss a = vss b))] := by
  rw [retP, runD_eq find43 _ _ _ (by simp)]
  by_cases hlen : a.length = b.length
  · have hl := loop_sameRows d c c' a b hs hsa hlen 1099511627775 (by simp; omega)
    simp -implicitDefEqProofs only [go_sem, Nat.reduceBEq, Nat.reduceAdd, Nat.reduceSub, Nat.reduceMul, Nat.reduceLeDiff, Nat.reduceEqDiff, Nat.reduceLT, Int.reduceNeg, Int.reduceAdd, Int.reduceSub, Int.reduceMul, Int.reduceLE, Int.reduceLT, Int.reduceEq, Int.reduceToNat, reduceCtorEq, hlen] at hl ⊢
    rw [hl, zip_sames a b hlen]
    by_cases h : vss a = vss b <;> simp -implicitDefEqProofs only [go_sem, Nat.reduceBEq, Nat.reduceAdd, Nat.reduceSub, Nat.reduceMul, Nat.reduceLeDiff, Nat.reduceEqDiff, Nat.reduceLT, Int.reduceNeg, Int.reduceAdd, Int.reduceSub, Int.reduceMul, Int.reduceLE, Int.reduceLT, Int.reduceEq, Int.reduceToNat, reduceCtorEq, h]
  · have h1 : ((a.length : Int) = b.length) = False := eq_false (by omega)
    have h2 : ¬ vss a = vss b := fun e => hlen (by have := congrArg List.length e; simpa [vss] using this)
    simp -implicitDefEqProofs only [go_sem, Nat.reduceBEq, Nat.reduceAdd, Nat.reduceSub, Nat.reduceMul, Nat.reduceLeDiff, Nat.reduceEqDiff, Nat.reduceLT, Int.reduceNeg, Int.reduceAdd, Int.reduceSub, Int.reduceMul, Int.reduceLE, Int.reduceLT, Int.reduceEq, Int.reduceToNat, reduceCtorEq, h1, h2]
end Go.Proofs.Ytnnjpiepoeknnaa.PE
/- Rows of rows that grow, element by element, each of memory of its own. -/
set_option linter.unusedVariables false
set_option linter.unusedSimpArgs false
namespace Go.Proofs.Ytnnjpiepoeknnaa.PE
open Go.RowKit

/-- What has been gathered up to now. -/
def Grown (fs : List Fd) (id : Nat) (h : Heap) (done : List (List V)) (xs : List (List U)) : Prop :=
  h[id]? = some (blkOf fs done.length done) ∧ ∃ ids, Zip3 (OwnR h fs) done xs ids ∧ (id :: ids).Nodup
theorem Grown.nest {fs : List Fd} {id : Nat} {h : Heap} {done : List (List V)} {xs : List (List U)} (g : Grown fs id h done xs) (hd : fs.any Fd.deep = true) : h[id]? = some (.nest done.length fs.length done) := by
  have := g.1
  unfold blkOf at this
  rw [hd] at this
  exact this
theorem Grown.len {fs : List Fd} {id : Nat} {h : Heap} {done : List (List V)} {xs : List (List U)} (g : Grown fs id h done xs) : done.length = xs.length := by
  obtain ⟨_, ids, z, _⟩ := g
  exact Zip3_len z
theorem Grown.lt {fs : List Fd} {id : Nat} {h : Heap} {done : List (List V)} {xs : List (List U)} (g : Grown fs id h done xs) : id < h.length := (List.getElem?_eq_some_iff.1 g.1).1
theorem Grown.start {fs : List Fd} {id : Nat} {h : Heap} (hb : h[id]? = some (blkOf fs 0 [])) : Grown fs id h [] [] := ⟨hb, [], rfl, by simp⟩
theorem Grown.frame {fs : List Fd} {id : Nat} {h h1 : Heap} {done : List (List V)} {xs : List (List U)} (g : Grown fs id h done xs) (keep : ∀ j, j < h.length → h1[j]? = h[j]?) : Grown fs id h1 done xs := by
  obtain ⟨g1, ids, z, nd⟩ := g
  refine ⟨(keep id (List.getElem?_eq_some_iff.1 g1).1).trans g1, ids, ?_, nd⟩
  exact Zip3_mono (P := fun _ => True) (fun c x i hr _ => OwnR_frame _ hr (fun j hj => keep j (OwnR_lt _ hr j hj))) z (fun _ _ => trivial)
theorem Grown.add {fs : List Fd} {id : Nat} {h h1 h2 : Heap} {done : List (List V)} {xs : List (List U)} {cells : List V} {x : List U} {js : List Nat} (g : Grown fs id h done xs) (own : OwnR h1 fs cells x js) (nd : js.Nodup)
    (fresh : ∀ j ∈ js, h.length ≤ j) (keep : ∀ j, j < h.length → h1[j]? = h[j]?) (e2 : h2 = h1.set id (blkOf fs (done.length + 1) (done ++ [cells]))) : Grown fs id h2 (done ++ [cells]) (xs ++ [x]) := by
  subst e2
  have hlt := g.lt
  obtain ⟨g1, ids, z, nd1⟩ := g
  have hl1 : id < h1.length := by
    have := keep id hlt
    rw [List.getElem?_eq_getElem hlt] at this
    exact (List.getElem?_eq_some_iff.1 this).1
  obtain ⟨n1, n2⟩ := List.nodup_cons.1 nd1
  have hids : ∀ j ∈ ids, j < h.length := Zip3_all (fun c x i hr => OwnR_lt fs hr) z
  refine ⟨by rw [List.getElem?_set_self hl1, List.length_append]; rfl, ids ++ js, Zip3_app (Zip3_mono (P := fun j => j ∈ ids) (fun c x i hr hp => OwnR_frame fs hr (fun j hj => ?_)) z (fun _ hm => hm)) (Zip3_one (OwnR_frame fs own (fun j hj => ?_))), ?_⟩
  · have hne : id ≠ j := fun e => n1 (e ▸ hp j hj)
    rw [List.getElem?_set_ne hne]
    exact keep j (hids j (hp j hj))
  · have hne : id ≠ j := fun e => by have := fresh j hj; omega
    rw [List.getElem?_set_ne hne]
  · refine List.nodup_cons.2 ⟨fun hm => ?_, List.nodup_append.2 ⟨n2, nd, fun p hp q hq => ?_⟩⟩
    · rcases List.mem_append.1 hm with hm | hm
      · exact n1 hm
      · have := fresh id hm; omega
    · have := hids p hp
      have := fresh q hq
      omega
theorem Grown.set {fs : List Fd} {id : Nat} {h h1 : Heap} {done : List (List V)} {xs : List (List U)} {k : Nat} {b : Blk} (g : Grown fs id h done xs) (hk : h.length ≤ k) : Grown fs id (h.set k b) done xs := by
  rw [List.set_eq_of_length_le hk]
  exact g
theorem Grown.own {fs : List Fd} {id : Nat} {h : Heap} {done : List (List V)} {xs : List (List U)} {n : Nat} {clip : Bool} (g : Grown fs id h done xs) (hn : n = done.length) : ∃ ids, OwnF h (.sub fs) (.ref id n 0 n clip) (.sub xs) ids ∧ ids.Nodup := by
  subst hn
  obtain ⟨g1, ids, z, nd⟩ := g
  refine ⟨id :: ids, ?_, nd⟩
  simp only [OwnF]
  exact ⟨xs, rfl, .inr ⟨id, done.length, clip, done, ids, rfl, g1, rfl, z⟩⟩
end Go.Proofs.Ytnnjpiepoeknnaa.PE
/- Copies of rows as memory of one's own. -/
set_option linter.unusedVariables false
set_option linter.unusedSimpArgs false
set_option maxHeartbeats 4000000
namespace Go.Proofs.Ytnnjpiepoeknnaa.PE
open Go.RowKit

theorem val_own (h : Heap) (v : Val) : OwnR h fdValue v.cells (valU v) [] := ownR_mk_Value h v.kind v.n v.s
theorem own_cloneVal (d : Nat) (c : Bool) (vs : List Val) (hl : vs.length < 4294967296) : ∃ v hc ids, runD tab noExt (d + 2) 112 [.sl c 3 (vs.map Val.cells)] [] = some ([v], hc) ∧ OwnF hc (.sub fdValue) v (.sub (vs.map valU)) ids ∧ ids.Nodup := by
  match vs, hl with
  | [], _ => exact ⟨_, _, [], runnVal d c, own_nil rfl, List.nodup_nil⟩
  | x :: r, hl => exact ⟨_, _, [0], runcVal d c ((x :: r).map Val.cells) (by simp) (by simpa using hl), own_row rfl (x :: r) (by simp) rfl (val_own _), by simp⟩
-- find109
theorem loop_copy (d : Nat) (c : Bool) (rs : List Row) (hf : Fine rs) : ∃ h' cont r, LoopK (runD tab noExt (d + 2)) (drawI (runD tab noExt (d + 2))) [3, 6, 7, 8] [3] L109x0 1099511627775 [(3, .ref 0 0 0 0 false), (6, .sl c 1 (rs.map Row.cells)), (7, .int .i64 rs.length), (8, .int .i64 0)] [.nest 0 1 []] = some (.exit 0, [(3, .ref 0 rs.length 0 rs.length false)], h') ∧ h'[0]? = some (.nest rs.length 1 cont) ∧ cont.length = rs.length ∧ Zip3 (OwnR h' fdValueS) cont (rs.map rowU) r ∧ (0 :: r).Nodup := by
  have hf0 := hf.1
  obtain ⟨h', ⟨done, ids, g1, g2, g3, g4, g5⟩, e⟩ := LoopK_inv (run := runD tab noExt (d + 2)) (draw := drawI (runD tab noExt (d + 2))) (live := [3, 6, 7, 8]) (out := [3]) (c := L109x0) rs.length
    (fun i (h : Heap) => ∃ done ids, h[0]? = some (.nest i 1 done) ∧ done.length = i ∧ Zip3 (OwnR h fdValueS) done ((rs.take i).map rowU) ids ∧ ids.Nodup ∧ 0 ∉ ids)
    (fun i _ => [(3, .ref 0 i 0 i false), (6, .sl c 1 (rs.map Row.cells)), (7, .int .i64 rs.length), (8, .int .i64 (i : Nat))]) (fun h => h) (fun h => some (.exit 0, [(3, .ref 0 rs.length 0 rs.length false)], h))
    (fun h K hb => by
      rw [LoopK_eq]
      simp -implicitDefEqProofs only [go_sem, Nat.reduceBEq, Nat.reduceAdd, Nat.reduceSub, Nat.reduceMul, Nat.reduceLeDiff, Nat.reduceEqDiff, Nat.reduceLT, Int.reduceNeg, Int.reduceAdd, Int.reduceSub, Int.reduceMul, Int.reduceLE, Int.reduceLT, Int.reduceEq, Int.reduceToNat, reduceCtorEq, evL109x0, B109x0, Int.lt_irrefl]) (fun i h K hi hb => by
      obtain ⟨done, ids, g1, g2, g3, g4, g5⟩ := hb
      have hx := List.getElem?_eq_getElem hi
      generalize rs[i] = x at hx
      obtain ⟨v, hc, is0, e1, e2, e3⟩ := own_cloneVal d x.clip x.vs (Fine_at hf hx)
      obtain ⟨w, h1, js, k1, k2, k3, k4, k5, k6⟩ := own_call (h := h) (args := [.sl x.clip 3 (x.vs.map Val.cells)]) (by simp only [pureDAs, mapO, pureDA, pureD]) e1 e2 e3
      have h0 : 0 < h.length := (List.getElem?_eq_some_iff.1 g1).1
      have h10 : 0 < h1.length := by omega
      have g1' : h1[0]? = some (.nest i 1 done) := by rw [k5 0 h0, g1]
      have hlt := Zip3_all (fun c x i hr => OwnR_lt fdValueS hr) g3
      have hj0 : 0 ∉ js := fun hm => by have := k4 0 hm; omega
      refine ⟨h1.set 0 (.nest (i + 1) 1 (done ++ [[w]])), ⟨done ++ [[w]], ids ++ js, ?_, by simp [g2], ?_, ?_, ?_⟩, ?_⟩
      · rw [List.getElem?_set_self h10]
      · rw [take_snoc hx, List.map_append]
        refine Zip3_app (Zip3_mono (P := fun id => id ∈ ids) (fun c x j hr hp => OwnR_frame _ hr (fun id hid => ?_)) g3 (fun _ h => h)) (Zip3_one ⟨w, [], _, [], js, [], rfl, rfl, by simp, OwnF_frame _ k2 (fun id hid => ?_), rfl, rfl, rfl⟩)
        · have hne : 0 ≠ id := fun e => g5 (e ▸ hp id hid)
          rw [List.getElem?_set_ne hne]
          exact k5 id (hlt id (hp id hid))
        · have hne : 0 ≠ id := fun e => hj0 (e ▸ hid)
          rw [List.getElem?_set_ne hne]
      · refine List.nodup_append.2 ⟨g4, k3, fun p hp q hq => ?_⟩
        have := hlt p hp
        have := k4 q hq
        omega
      · intro hm
        rcases List.mem_append.1 hm with hm | hm
        · exact g5 hm
        · exact hj0 hm
      · have hi' : (i : Int) < rs.length := by omega
        have hsm : done.length + 1 < 4294967296 := by omega
        rw [LoopK_eq]
        subst g2
        rcases own_cases k2 with ⟨c', rfl⟩ | ⟨id, st, n, clip, rfl⟩
        · simp -implicitDefEqProofs (disch := omega) only [go_sem, Nat.reduceBEq, Nat.reduceAdd, Nat.reduceSub, Nat.reduceMul, Nat.reduceLeDiff, Nat.reduceEqDiff, Nat.reduceLT, Int.reduceNeg, Int.reduceAdd, Int.reduceSub, Int.reduceMul, Int.reduceLE, Int.reduceLT, Int.reduceEq, Int.reduceToNat, reduceCtorEq, evL109x0, B109x0, hi', hx, Row.cells, Row.v, k1, g1', elemsN, elemN, listN, appendN, okN, hsm, IntWalk.i64_in, small]
        · simp -implicitDefEqProofs (disch := omega) only [go_sem, Nat.reduceBEq, Nat.reduceAdd, Nat.reduceSub, Nat.reduceMul, Nat.reduceLeDiff, Nat.reduceEqDiff, Nat.reduceLT, Int.reduceNeg, Int.reduceAdd, Int.reduceSub, Int.reduceMul, Int.reduceLE, Int.reduceLT, Int.reduceEq, Int.reduceToNat, reduceCtorEq, evL109x0, B109x0, hi', hx, Row.cells, Row.v, k1, g1', elemsN, elemN, listN, appendN, okN, hsm, IntWalk.i64_in, small]) 1099511627775 (by omega) [.nest 0 1 []] ⟨[], [], rfl, rfl, rfl, List.nodup_nil, by simp⟩
  rw [List.take_of_length_le (Nat.le_refl _)] at g3
  exact ⟨h', done, ids, e, g1, g2, g3, List.nodup_cons.2 ⟨g5, g4⟩⟩
theorem clip_nest (d : Nat) (h : Heap) (n : Nat) {cont : List (List V)} (hb : h[0]? = some (.nest n 1 cont)) (hn : cont.length = n) : callX (runD tab noExt (d + 1)) h 2 167 [.ref 0 n 0 n false] = some (.ref 0 n 0 n true, h) := by
  simp only [callX, callK]
  rw [runD_eq find167 _ _ _ (by simp)]
  simp -implicitDefEqProofs (disch := omega) only [go_sem, Nat.reduceBEq, Nat.reduceAdd, Nat.reduceSub, Nat.reduceMul, Nat.reduceLeDiff, Nat.reduceEqDiff, Nat.reduceLT, Int.reduceNeg, Int.reduceAdd, Int.reduceSub, Int.reduceMul, Int.reduceLE, Int.reduceLT, Int.reduceEq, Int.reduceToNat, reduceCtorEq, Bool.true_or, resOk, hb, hn]
theorem own_rowsCopy (d : Nat) (c : Bool) (rs : List Row) (hf : Fine rs) : ∃ v hc ids, runD tab noExt (d + 3) 109 [.sl c 1 (rs.map Row.cells)] [] = some ([v], hc) ∧ OwnF hc (.sub fdValueS) v (.sub (rs.map rowU)) ids ∧ ids.Nodup := by
  obtain ⟨h', cont, r, e, e1, e2, e3, e4⟩ := loop_copy d c rs hf
  refine ⟨.ref 0 rs.length 0 rs.length true, h', 0 :: r, ?_, ?_, e4⟩
  · rw [runD_eq find109 _ _ _ (by simp)]
    have h0 := hf.1
    have hc := clip_nest (d + 1) h' rs.length e1 e2
    simp -implicitDefEqProofs (disch := omega) only [go_sem, Nat.reduceBEq, Nat.reduceAdd, Nat.reduceSub, Nat.reduceMul, Nat.reduceLeDiff, Nat.reduceEqDiff, Nat.reduceLT, Int.reduceNeg, Int.reduceAdd, Int.reduceSub, Int.reduceMul, Int.reduceLE, Int.reduceLT, Int.reduceEq, Int.reduceToNat, reduceCtorEq]
    try simp -implicitDefEqProofs only [go_sem, Nat.reduceBEq, Nat.reduceAdd, Nat.reduceSub, Nat.reduceMul, Nat.reduceLeDiff, Nat.reduceEqDiff, Nat.reduceLT, Int.reduceNeg, Int.reduceAdd, Int.reduceSub, Int.reduceMul, Int.reduceLE, Int.reduceLT, Int.reduceEq, Int.reduceToNat, reduceCtorEq] at e
    rw [e]
    simp -implicitDefEqProofs (disch := omega) only [go_sem, Nat.reduceBEq, Nat.reduceAdd, Nat.reduceSub, Nat.reduceMul, Nat.reduceLeDiff, Nat.reduceEqDiff, Nat.reduceLT, Int.reduceNeg, Int.reduceAdd, Int.reduceSub, Int.reduceMul, Int.reduceLE, Int.reduceLT, Int.reduceEq, Int.reduceToNat, reduceCtorEq, hc]
  · simp only [OwnF]
    exact ⟨_, rfl, .inr ⟨0, rs.length, true, cont, r, by rw [e2], e1, rfl, e3⟩⟩
end Go.Proofs.Ytnnjpiepoeknnaa.PE
/- The row that a key has at a time, and the rows at a time: the program's. -/
set_option linter.unusedVariables false
set_option linter.unusedSimpArgs false
set_option maxHeartbeats 4000000
namespace Go.Proofs.Ytnnjpiepoeknnaa.PE
open Go.RowKit

-- find45
theorem run_seenI (d : Nat) (c : Bool) (l : List Ver) (key time : Int) (hs : l.length < 1099511627776) (hsh : ShortVs l) (hfn : ∀ v ∈ l, v.row.vs.length < 4294967296) : ∃ cl, retP (runD tab noExt (d + 9)) 45 [.sl c 4 (l.map Ver.cells), .int .i64 key, .int .i64 time] = some [.sl cl 3 (((rowAt l key time).getD Ver.zero).row.vs.map Val.cells), .bool (rowAt l key time).isSome] := by
  rw [retP, runD_eq find45 _ _ _ (by simp)]
  have hv := run_versI d c l hs hsh
  have hse := run_seen (d + 7) c l key time hs
  have hmem : ∀ v, l.find? (Ver.at key time) = some v → v ∈ l := fun v hv => List.mem_of_find?_eq_some hv
  unfold rowAt
  cases hok : versOk l
  · rw [hok] at hv
    exact ⟨true, by simp -implicitDefEqProofs (disch := omega) only [go_sem, Nat.reduceBEq, Nat.reduceAdd, Nat.reduceSub, Nat.reduceMul, Nat.reduceLeDiff, Nat.reduceEqDiff, Nat.reduceLT, Int.reduceNeg, Int.reduceAdd, Int.reduceSub, Int.reduceMul, Int.reduceLE, Int.reduceLT, Int.reduceEq, Int.reduceToNat, reduceCtorEq, hv, Option.getD_none, Option.isSome_none, Ver.zero, List.map_nil]⟩
  · rw [hok] at hv
    generalize hw : (l.find? (Ver.at key time)) = o at hse hmem ⊢
    have hlen : (o.getD Ver.zero).row.vs.length < 4294967296 := by
      cases o with
      | none => simp [Ver.zero]
      | some v => exact hfn v (hmem v rfl)
    simp only [if_true]
    generalize o.getD Ver.zero = w at hse hlen ⊢
    clear hw hmem
    obtain ⟨key', born, died, ⟨rc, vs⟩⟩ := w
    try simp only at hlen
    try simp only [if_true]
    cases vs with
    | nil =>
      have hcl := clonenVal (d + 6) [.box [.int .i64 key', .int .i64 born, .int .i64 died, .sl rc 3 []]] rc
      exact ⟨true, by simp -implicitDefEqProofs (disch := omega) only [go_sem, Nat.reduceBEq, Nat.reduceAdd, Nat.reduceSub, Nat.reduceMul, Nat.reduceLeDiff, Nat.reduceEqDiff, Nat.reduceLT, Int.reduceNeg, Int.reduceAdd, Int.reduceSub, Int.reduceMul, Int.reduceLE, Int.reduceLT, Int.reduceEq, Int.reduceToNat, reduceCtorEq, hv, hse, Ver.cells, Row.v, List.map_nil, hcl]⟩
    | cons x r =>
      have hcl := clonexVal (d + 6) [.box [.int .i64 key', .int .i64 born, .int .i64 died, .sl rc 3 ((x :: r).map Val.cells)]] rc ((x :: r).map Val.cells) (by simp) (by simpa using hlen) (by simp [Val.cells, freshC])
      simp only [List.length_map, List.length_cons, List.map_cons, Val.cells] at hcl
      exact ⟨true, by simp -implicitDefEqProofs (disch := omega) only [go_sem, Nat.reduceBEq, Nat.reduceAdd, Nat.reduceSub, Nat.reduceMul, Nat.reduceLeDiff, Nat.reduceEqDiff, Nat.reduceLT, Int.reduceNeg, Int.reduceAdd, Int.reduceSub, Int.reduceMul, Int.reduceLE, Int.reduceLT, Int.reduceEq, Int.reduceToNat, reduceCtorEq, hv, hse, Ver.cells, Row.v, List.map_cons, Val.cells, hcl]⟩
def addRowI (l : List Ver) (time : Int) (b : List Row) (k : Int) : List Row := match l.find? (Ver.at k time) with
  | some v => b ++ [v.row]
  | none => b
theorem addRowI_len {l : List Ver} {time k : Int} {b : List Row} {i : Nat} (h : b.length ≤ i) : (addRowI l time b k).length ≤ i + 1 := by
  unfold addRowI
  split
  · simp; omega
  · omega
theorem addRowI_eq (l : List Ver) (time : Int) (hok : versOk l = true) : ∀ (ks : List Int) (b : List Row), (ks.foldl (addRowI l time) b).map rowU = b.map rowU ++ ((ks.filterMap fun k => rowV l k time).map (Row.mk false)).map rowU
  | [], b => by simp
  | k :: ks, b => by
    rw [List.foldl_cons, addRowI_eq l time hok ks]
    have e : rowV l k time = (l.find? (Ver.at k time)).map fun v => v.row.vs := by unfold rowV rowAt; rw [hok]; rfl
    unfold addRowI
    cases h : l.find? (Ver.at k time) with
    | none => rw [h] at e; simp at e; simp [e]
    | some v => rw [h] at e; simp at e; simp [e, rowU]
theorem addRowI_fine (l : List Ver) (time : Int) (hfn : ∀ v ∈ l, v.row.vs.length < 4294967296) : ∀ (ks : List Int) (b : List Row), (∀ r ∈ b, r.vs.length < 4294967296) → ∀ r ∈ ks.foldl (addRowI l time) b, r.vs.length < 4294967296
  | [], b, hb => hb
  | k :: ks, b, hb => by
    refine addRowI_fine l time hfn ks _ (fun r hr => ?_)
    unfold addRowI at hr
    split at hr
    · rename_i v hv
      rcases List.mem_append.1 hr with hr | hr
      · exact hb r hr
      · rw [List.mem_singleton.1 hr]
        exact hfn v (List.mem_of_find?_eq_some hv)
    · exact hb r hr
theorem loop_rowsAtI (d : Nat) (c : Bool) (l : List Ver) (time : Int) (hs : l.length < 1099511627776) (K : Nat) (hK : (keys5).length ≤ K) (b0 : List Row) (hb0 : (fun (i : Nat) (b : List Row) => b.length ≤ i) 0 b0) : LoopS (runD tab noExt (d + 1)) (drawI (runD tab noExt (d + 1))) [0, 1, 5, 12] [5] L42x0 ([.rows (b0).length 1 ((b0).map Row.cells)] : Heap).length K [(0, .sl c 4 (l.map Ver.cells)), (1, .int .i64 time), (5, .ref 0 (b0).length 0 (b0).length false), (12, .int .i64 (0 : Nat))] [.rows (b0).length 1 ((b0).map Row.cells)] = (some (.exit 0, [(5, .ref 0 (((keys5).foldl (addRowI l time) b0)).length 0 (((keys5).foldl (addRowI l time) b0)).length false)], [.rows (((keys5).foldl (addRowI l time) b0)).length 1 ((((keys5).foldl (addRowI l time) b0)).map Row.cells)]) : Out) ∧ (fun (i : Nat) (b : List Row) => b.length ≤ i) (keys5).length ((keys5).foldl (addRowI l time) b0) := by
  have key := LoopS_foldI (run := (runD tab noExt (d + 1))) (draw := drawI (runD tab noExt (d + 1))) (live := [0, 1, 5, 12]) (out := [5]) (c := L42x0) (n0 := ([.rows (b0).length 1 ((b0).map Row.cells)] : Heap).length) (keys5) (addRowI l time) (fun (i : Nat) (b : List Row) => b.length ≤ i) (fun (i : Nat) (b : List Row) => [(0, .sl c 4 (l.map Ver.cells)), (1, .int .i64 time), (5, .ref 0 (b).length 0 (b).length false), (12, .int .i64 (i : Nat))]) (fun (i : Nat) (b : List Row) => [.rows (b).length 1 ((b).map Row.cells)]) (fun b => (some (.exit 0, [(5, .ref 0 (b).length 0 (b).length false)], [.rows (b).length 1 ((b).map Row.cells)]) : Out)) (fun b K hb => ?_) (fun (i : Nat) (x : Int) b K hi hx hb => ?_) K hK b0 hb0
  · simp only [Int.natCast_zero] at key
    exact key
  · rw [LoopS_eq]
    simp -implicitDefEqProofs only [go_sem, Nat.reduceBEq, Nat.reduceAdd, Nat.reduceSub, Nat.reduceMul, Nat.reduceLeDiff, Nat.reduceEqDiff, Nat.reduceLT, Int.reduceNeg, Int.reduceAdd, Int.reduceSub, Int.reduceMul, Int.reduceLE, Int.reduceLT, Int.reduceEq, Int.reduceToNat, reduceCtorEq, evL42x0, B42x0, Int.lt_irrefl, keys5_len]
  · obtain ⟨rfl, hi5⟩ := keys_at hx; have hsm : b.length + 1 < 4294967296 := (by simp [keys5] at hi; omega); have hseen := run_seen d c l (i : Int) time hs; cases hq : l.find? (Ver.at (i : Int) time) <;> simp only [hq, Option.isSome_none, Option.isSome_some, Option.getD_none, Option.getD_some, Ver.cells, Row.v] at hseen
    all_goals
      refine ⟨?_, ?_⟩
      · exact addRowI_len hb
      · rw [LoopS_eq]
        simp -implicitDefEqProofs (disch := first | omega | assumption) only [go_sem, Nat.reduceBEq, Nat.reduceAdd, Nat.reduceSub, Nat.reduceMul, Nat.reduceLeDiff, Nat.reduceEqDiff, Nat.reduceLT, Int.reduceNeg, Int.reduceAdd, Int.reduceSub, Int.reduceMul, Int.reduceLE, Int.reduceLT, Int.reduceEq, Int.reduceToNat, reduceCtorEq, evL42x0, B42x0, hi, hx, IntWalk.i64_in, List.map_append, List.foldl_cons, keys5_len, hseen, hsm, hi5, Row.cells, Row.v]
        (simp -implicitDefEqProofs (disch := first | omega | assumption) only [go_sem, Nat.reduceBEq, Nat.reduceAdd, Nat.reduceSub, Nat.reduceMul, Nat.reduceLeDiff, Nat.reduceEqDiff, Nat.reduceLT, Int.reduceNeg, Int.reduceAdd, Int.reduceSub, Int.reduceMul, Int.reduceLE, Int.reduceLT, Int.reduceEq, Int.reduceToNat, reduceCtorEq, addRowI, hq, hseen, Row.cells, Row.v, List.map_append, List.map_cons, List.map_nil, IntWalk.i64_in])
-- find42
theorem own_rowsAt (d : Nat) (c : Bool) (l : List Ver) (time : Int) (hs : l.length < 1099511627776) (hsh : ShortVs l) (hfn : ∀ v ∈ l, v.row.vs.length < 4294967296) : ∃ v hc ids, runD tab noExt (d + 9) 42 [.sl c 4 (l.map Ver.cells), .int .i64 time] [] = some ([v], hc) ∧ OwnF hc (.sub fdValueS) v (.sub ((rowsAtV l time).map rowU)) ids ∧ ids.Nodup := by
  have hv := run_versI d c l hs hsh
  cases hok : versOk l
  · rw [hok] at hv
    have e : rowsAtV l time = [] := by
      rw [rowsAtV_eq]
      simp [keys5, rowV, rowAt, hok]
    rw [e]
    refine ⟨.sl true 1 [], [], [], ?_, own_nil rfl, List.nodup_nil⟩
    rw [runD_eq find42 _ _ _ (by simp)]
    simp -implicitDefEqProofs (disch := omega) only [go_sem, Nat.reduceBEq, Nat.reduceAdd, Nat.reduceSub, Nat.reduceMul, Nat.reduceLeDiff, Nat.reduceEqDiff, Nat.reduceLT, Int.reduceNeg, Int.reduceAdd, Int.reduceSub, Int.reduceMul, Int.reduceLE, Int.reduceLT, Int.reduceEq, Int.reduceToNat, reduceCtorEq, hv]
  · rw [hok] at hv
    obtain ⟨hl, hlen⟩ := loop_rowsAtI (d + 7) c l time hs 1099511627775 (by simp [keys5]) [] (by simp)
    have e : (keys5.foldl (addRowI l time) []).map rowU = (rowsAtV l time).map rowU := by
      rw [addRowI_eq l time hok, rowsAtV_eq]
      rfl
    have hfin : Fine (keys5.foldl (addRowI l time) []) := ⟨by simp [keys5] at hlen ⊢; omega, addRowI_fine l time hfn keys5 [] (fun r hr => by cases hr)⟩
    generalize keys5.foldl (addRowI l time) [] = rs at hl hlen e hfin
    have et : List.take rs.length (rs.map Row.cells) = rs.map Row.cells := List.take_of_length_le (by simp)
    obtain ⟨v1, hc, is0, e1, e2, e3⟩ := own_rowsCopy (d + 5) false rs hfin
    obtain ⟨w, h1, js, k1, k2, k3, k4, k5, k6⟩ := own_call (h := [.rows rs.length 1 (rs.map Row.cells)]) (args := [.ref 0 rs.length 0 rs.length false]) (by simp only [pureDAs, mapO, pureDA, pureD, deepest, List.getElem?_cons_zero, if_true, List.drop_zero, et]) e1 e2 e3
    simp only [List.length_nil, List.map_nil, Int.natCast_zero, List.length_cons] at hl
    rw [e] at k2
    refine ⟨w, h1, js, ?_, k2, k3⟩
    rw [runD_eq find42 _ _ _ (by simp)]
    simp -implicitDefEqProofs (disch := omega) only [go_sem, Nat.reduceBEq, Nat.reduceAdd, Nat.reduceSub, Nat.reduceMul, Nat.reduceLeDiff, Nat.reduceEqDiff, Nat.reduceLT, Int.reduceNeg, Int.reduceAdd, Int.reduceSub, Int.reduceMul, Int.reduceLE, Int.reduceLT, Int.reduceEq, Int.reduceToNat, reduceCtorEq, hv]
    try simp -implicitDefEqProofs only [go_sem, Nat.reduceBEq, Nat.reduceAdd, Nat.reduceSub, Nat.reduceMul, Nat.reduceLeDiff, Nat.reduceEqDiff, Nat.reduceLT, Int.reduceNeg, Int.reduceAdd, Int.reduceSub, Int.reduceMul, Int.reduceLE, Int.reduceLT, Int.reduceEq, Int.reduceToNat, reduceCtorEq] at hl
    rw [hl]
    rcases own_cases k2 with ⟨c', rfl⟩ | ⟨id, st, n, clip, rfl⟩
    · simp -implicitDefEqProofs (disch := first | omega | assumption) only [go_sem, Nat.reduceBEq, Nat.reduceAdd, Nat.reduceSub, Nat.reduceMul, Nat.reduceLeDiff, Nat.reduceEqDiff, Nat.reduceLT, Int.reduceNeg, Int.reduceAdd, Int.reduceSub, Int.reduceMul, Int.reduceLE, Int.reduceLT, Int.reduceEq, Int.reduceToNat, reduceCtorEq, k1, resOk]
    · simp -implicitDefEqProofs (disch := first | omega | assumption) only [go_sem, Nat.reduceBEq, Nat.reduceAdd, Nat.reduceSub, Nat.reduceMul, Nat.reduceLeDiff, Nat.reduceEqDiff, Nat.reduceLT, Int.reduceNeg, Int.reduceAdd, Int.reduceSub, Int.reduceMul, Int.reduceLE, Int.reduceLT, Int.reduceEq, Int.reduceToNat, reduceCtorEq, k1, resOk]
end Go.Proofs.Ytnnjpiepoeknnaa.PE
/- Whether two lists of values are the same. -/
set_option linter.unusedVariables false
set_option linter.unusedSimpArgs false
set_option maxHeartbeats 4000000
namespace Go.Proofs.Ytnnjpiepoeknnaa.PE
open Go.RowKit

theorem loop_equal (d : Nat) (c c' : Bool) (a b : List Val) (hs : a.length < 1099511627776) (hlen : a.length = b.length) (K : Nat) (hK : (a.zip b).length ≤ K) : LoopS (runD tab noExt d) (drawI (runD tab noExt d)) [0, 1, 12, 13] [4] L171x0 ([] : Heap).length K [(0, .sl c 3 (a.map Val.cells)), (1, .sl c' 3 (b.map Val.cells)), (12, .int .i64 (a.length : Int)), (13, .int .i64 0)] [] = if (a.zip b).all (fun p => decide (p.1 = p.2)) then (some (.exit 0, [(4, .undef)], []) : Out) else (some (.ret, [(4, .bool false)], []) : Out) := by
  have key := LoopS_all (run := (runD tab noExt d)) (draw := drawI (runD tab noExt d)) (live := [0, 1, 12, 13]) (out := [4]) (c := L171x0) (n0 := ([] : Heap).length) (a.zip b) (fun p => decide (p.1 = p.2)) (fun (i : Nat) => [(0, .sl c 3 (a.map Val.cells)), (1, .sl c' 3 (b.map Val.cells)), (12, .int .i64 (a.length : Int)), (13, .int .i64 i)]) [] (some (.exit 0, [(4, .undef)], []) : Out) (some (.ret, [(4, .bool false)], []) : Out) (fun K => ?_) (fun (i : Nat) (x : Val × Val) K hi hx => ?_) K hK
  · simp only [Int.natCast_zero] at key
    exact key
  · rw [LoopS_eq]
    simp -implicitDefEqProofs only [go_sem, Nat.reduceBEq, Nat.reduceAdd, Nat.reduceSub, Nat.reduceMul, Nat.reduceLeDiff, Nat.reduceEqDiff, Nat.reduceLT, Int.reduceNeg, Int.reduceAdd, Int.reduceSub, Int.reduceMul, Int.reduceLE, Int.reduceLT, Int.reduceEq, Int.reduceToNat, reduceCtorEq, evL171x0, B171x0, Int.lt_irrefl, List.length_zip, hlen, Nat.min_self, evC_draw, evD171x0, E171x0, Val.cells]
  · obtain ⟨g1, g2⟩ := List.getElem?_zip_eq_some.1 hx; rw [List.length_zip, hlen, Nat.min_self] at hi; obtain ⟨⟨k1, n1, s1⟩, ⟨k2, n2, s2⟩⟩ := x
    rw [LoopS_eq]
    simp -implicitDefEqProofs (disch := omega) only [go_sem, Nat.reduceBEq, Nat.reduceAdd, Nat.reduceSub, Nat.reduceMul, Nat.reduceLeDiff, Nat.reduceEqDiff, Nat.reduceLT, Int.reduceNeg, Int.reduceAdd, Int.reduceSub, Int.reduceMul, Int.reduceLE, Int.reduceLT, Int.reduceEq, Int.reduceToNat, reduceCtorEq, evL171x0, B171x0, hi, hx, IntWalk.i64_in, List.length_zip, hlen, Nat.min_self, evC_draw, evD171x0, E171x0, Val.cells, *]
    repeat' ((first | rw [GuardI_ndec] | rw [CondC_ndec] | rw [GuardQ_ndec] | rw [GuardI_dec] | rw [CondC_dec] | rw [GuardQ_dec] | rw [GuardI_nby] | rw [CondC_nby] | rw [GuardQ_nby] | rw [GuardQ_by] | rw [GuardI_by] | rw [CondC_by]) <;> split <;> simp -implicitDefEqProofs (disch := omega) only [go_sem, Nat.reduceBEq, Nat.reduceAdd, Nat.reduceSub, Nat.reduceMul, Nat.reduceLeDiff, Nat.reduceEqDiff, Nat.reduceLT, Int.reduceNeg, Int.reduceAdd, Int.reduceSub, Int.reduceMul, Int.reduceLE, Int.reduceLT, Int.reduceEq, Int.reduceToNat, reduceCtorEq, hi, hx, IntWalk.i64_in, List.length_zip, hlen, Nat.min_self, evC_draw, evD171x0, E171x0, Val.cells, *, *])
    all_goals first | rfl | (simp_all [Val.mk.injEq]; done) | (simp_all [Val.mk.injEq]; omega)
-- find171
theorem run_equal (d : Nat) (c c' : Bool) (a b : List Val) (hs : a.length < 1099511627776) : retP (runD tab noExt (d + 1)) 171 [.sl c 3 (a.map Val.cells), .sl c' 3 (b.map Val.cells)] = some [.bool (decide (a = b))] := by
  rw [retP, runD_eq find171 _ _ _ (by simp)]
  by_cases hlen : a.length = b.length
  · have hl := loop_equal d c c' a b hs hlen 1099511627775 (by simp; omega)
    simp -implicitDefEqProofs only [go_sem, Nat.reduceBEq, Nat.reduceAdd, Nat.reduceSub, Nat.reduceMul, Nat.reduceLeDiff, Nat.reduceEqDiff, Nat.reduceLT, Int.reduceNeg, Int.reduceAdd, Int.reduceSub, Int.reduceMul, Int.reduceLE, Int.reduceLT, Int.reduceEq, Int.reduceToNat, reduceCtorEq, hlen] at hl ⊢
    rw [hl, zip_same a b hlen]
    by_cases h : a = b <;> simp -implicitDefEqProofs only [go_sem, Nat.reduceBEq, Nat.reduceAdd, Nat.reduceSub, Nat.reduceMul, Nat.reduceLeDiff, Nat.reduceEqDiff, Nat.reduceLT, Int.reduceNeg, Int.reduceAdd, Int.reduceSub, Int.reduceMul, Int.reduceLE, Int.reduceLT, Int.reduceEq, Int.reduceToNat, reduceCtorEq, h]
  · have h1 : ((a.length : Int) = b.length) = False := eq_false (by omega)
    have h2 : ¬ a = b := fun e => hlen (by rw [e])
    simp -implicitDefEqProofs only [go_sem, Nat.reduceBEq, Nat.reduceAdd, Nat.reduceSub, Nat.reduceMul, Nat.reduceLeDiff, Nat.reduceEqDiff, Nat.reduceLT, Int.reduceNeg, Int.reduceAdd, Int.reduceSub, Int.reduceMul, Int.reduceLE, Int.reduceLT, Int.reduceEq, Int.reduceToNat, reduceCtorEq, h1, h2]
theorem loop_same3 (d : Nat) (c c' : Bool) (a b : List Val) (hs : a.length < 1099511627776) (hlen : a.length = b.length) (K : Nat) (hK : (a.zip b).length ≤ K) : LoopS (runD tab noExt d) (drawI (runD tab noExt d)) [0, 1, 5] [4] L115x0 ([] : Heap).length K [(0, .sl c 3 (a.map Val.cells)), (1, .sl c' 3 (b.map Val.cells)), (5, .int .i64 0)] [] = if (a.zip b).all (fun p => decide (p.1 = p.2)) then (some (.exit 0, [(4, .undef)], []) : Out) else (some (.ret, [(4, .bool false)], []) : Out) := by
  have key := LoopS_all (run := (runD tab noExt d)) (draw := drawI (runD tab noExt d)) (live := [0, 1, 5]) (out := [4]) (c := L115x0) (n0 := ([] : Heap).length) (a.zip b) (fun p => decide (p.1 = p.2)) (fun (i : Nat) => [(0, .sl c 3 (a.map Val.cells)), (1, .sl c' 3 (b.map Val.cells)), (5, .int .i64 i)]) [] (some (.exit 0, [(4, .undef)], []) : Out) (some (.ret, [(4, .bool false)], []) : Out) (fun K => ?_) (fun (i : Nat) (x : Val × Val) K hi hx => ?_) K hK
  · simp only [Int.natCast_zero] at key
    exact key
  · rw [LoopS_eq]
    simp -implicitDefEqProofs only [go_sem, Nat.reduceBEq, Nat.reduceAdd, Nat.reduceSub, Nat.reduceMul, Nat.reduceLeDiff, Nat.reduceEqDiff, Nat.reduceLT, Int.reduceNeg, Int.reduceAdd, Int.reduceSub, Int.reduceMul, Int.reduceLE, Int.reduceLT, Int.reduceEq, Int.reduceToNat, reduceCtorEq, evL115x0, B115x0, Int.lt_irrefl, List.length_zip, hlen, Nat.min_self, evC_draw, evD115x0, E115x0, Val.cells]
  · obtain ⟨g1, g2⟩ := List.getElem?_zip_eq_some.1 hx; rw [List.length_zip, hlen, Nat.min_self] at hi; obtain ⟨⟨k1, n1, s1⟩, ⟨k2, n2, s2⟩⟩ := x
    rw [LoopS_eq]
    simp -implicitDefEqProofs (disch := omega) only [go_sem, Nat.reduceBEq, Nat.reduceAdd, Nat.reduceSub, Nat.reduceMul, Nat.reduceLeDiff, Nat.reduceEqDiff, Nat.reduceLT, Int.reduceNeg, Int.reduceAdd, Int.reduceSub, Int.reduceMul, Int.reduceLE, Int.reduceLT, Int.reduceEq, Int.reduceToNat, reduceCtorEq, evL115x0, B115x0, hi, hx, IntWalk.i64_in, List.length_zip, hlen, Nat.min_self, evC_draw, evD115x0, E115x0, Val.cells, *]
    repeat' ((first | rw [GuardI_ndec] | rw [CondC_ndec] | rw [GuardQ_ndec] | rw [GuardI_dec] | rw [CondC_dec] | rw [GuardQ_dec] | rw [GuardI_nby] | rw [CondC_nby] | rw [GuardQ_nby] | rw [GuardQ_by] | rw [GuardI_by] | rw [CondC_by]) <;> split <;> simp -implicitDefEqProofs (disch := omega) only [go_sem, Nat.reduceBEq, Nat.reduceAdd, Nat.reduceSub, Nat.reduceMul, Nat.reduceLeDiff, Nat.reduceEqDiff, Nat.reduceLT, Int.reduceNeg, Int.reduceAdd, Int.reduceSub, Int.reduceMul, Int.reduceLE, Int.reduceLT, Int.reduceEq, Int.reduceToNat, reduceCtorEq, hi, hx, IntWalk.i64_in, List.length_zip, hlen, Nat.min_self, evC_draw, evD115x0, E115x0, Val.cells, *, *])
    all_goals first | rfl | (simp_all [Val.mk.injEq]; done) | (simp_all [Val.mk.injEq]; omega)
-- find115
theorem run_same3 (d : Nat) (c c' : Bool) (a b : List Val) (hs : a.length < 1099511627776) : retP (runD tab noExt (d + 1)) 115 [.sl c 3 (a.map Val.cells), .sl c' 3 (b.map Val.cells)] = some [.bool (decide (a = b))] := by
  rw [retP, runD_eq find115 _ _ _ (by simp)]
  by_cases hlen : a.length = b.length
  · have hl := loop_same3 d c c' a b hs hlen 1099511627775 (by simp; omega)
    simp -implicitDefEqProofs only [go_sem, Nat.reduceBEq, Nat.reduceAdd, Nat.reduceSub, Nat.reduceMul, Nat.reduceLeDiff, Nat.reduceEqDiff, Nat.reduceLT, Int.reduceNeg, Int.reduceAdd, Int.reduceSub, Int.reduceMul, Int.reduceLE, Int.reduceLT, Int.reduceEq, Int.reduceToNat, reduceCtorEq, hlen] at hl ⊢
    rw [hl, zip_same a b hlen]
    by_cases h : a = b <;> simp -implicitDefEqProofs only [go_sem, Nat.reduceBEq, Nat.reduceAdd, Nat.reduceSub, Nat.reduceMul, Nat.reduceLeDiff, Nat.reduceEqDiff, Nat.reduceLT, Int.reduceNeg, Int.reduceAdd, Int.reduceSub, Int.reduceMul, Int.reduceLE, Int.reduceLT, Int.reduceEq, Int.reduceToNat, reduceCtorEq, h]
  · have h1 : ((a.length : Int) = b.length) = False := eq_false (by omega)
    have h2 : ¬ a = b := fun e => hlen (by rw [e])
    simp -implicitDefEqProofs only [go_sem, Nat.reduceBEq, Nat.reduceAdd, Nat.reduceSub, Nat.reduceMul, Nat.reduceLeDiff, Nat.reduceEqDiff, Nat.reduceLT, Int.reduceNeg, Int.reduceAdd, Int.reduceSub, Int.reduceMul, Int.reduceLE, Int.reduceLT, Int.reduceEq, Int.reduceToNat, reduceCtorEq, h1, h2]
end Go.Proofs.Ytnnjpiepoeknnaa.PE
/- Changes between two times: the program's. -/
set_option linter.unusedVariables false
set_option linter.unusedSimpArgs false
set_option maxHeartbeats 4000000
namespace Go.Proofs.Ytnnjpiepoeknnaa.PE
open Go.RowKit

structure Chg where
  n : Int
  vs : List Val
  come : Bool
def chgU (c : Chg) : List U := [.int c.n, .sub (c.vs.map valU), .bool c.come]
def chg1 (a b : Option (List Val)) : List Chg := if a = b then [] else (match a with
  | some x => [⟨0, x, false⟩]
  | none => []) ++ (match b with
  | some y => [⟨0, y, true⟩]
  | none => [])
/-- What a key has at a time, of versions that are ok. -/
def rowF (l : List Ver) (k t : Int) : Option (List Val) := (l.find? (Ver.at k t)).map fun v => v.row.vs
def chgs (l : List Ver) (time : Int) (ks : List Int) : List Chg := ks.flatMap fun k => chg1 (rowF l k time) (rowF l k (time + 1))
theorem grow_clone {h : Heap} {done : List (List V)} {xs : List (List U)} (g : Grown fdChange 0 h done xs) (d : Nat) (c : Bool) (vs : List Val) (hl : vs.length < 4294967296) (b : Bool) :
    ∃ w h1, callX (runD tab noExt (d + 2)) h 0 112 [.sl c 3 (vs.map Val.cells)] = some (w, h1) ∧ h1[0]? = some (.nest done.length 3 done) ∧ 0 < h1.length ∧ ((∃ c, w = .sl c 3 []) ∨ ∃ id st n clip, w = .ref id st 0 n clip) ∧ (∀ j, j < h.length → h1[j]? = h[j]?) ∧ h.length ≤ h1.length ∧
      Grown fdChange 0 (h1.set 0 (.nest (done.length + 1) 3 (done ++ [[.int .i64 0, w, .bool b]]))) (done ++ [[.int .i64 0, w, .bool b]]) (xs ++ [chgU ⟨0, vs, b⟩]) := by
  obtain ⟨v, hc, is0, e1, e2, e3⟩ := own_cloneVal d c vs hl
  obtain ⟨w, h1, js, k1, k2, k3, k4, k5, k6⟩ := own_call (h := h) (args := [.sl c 3 (vs.map Val.cells)]) (by simp only [pureDAs, mapO, pureDA, pureD]) e1 e2 e3
  have g' := g.nest (by rfl)
  refine ⟨w, h1, k1, (k5 0 g.lt).trans g', Nat.lt_of_lt_of_le g.lt k6, own_cases k2, k5, k6, g.add (ownR_mk_Change k2) k3 k4 k5 rfl⟩
theorem beq_ft : (false == true) = false := rfl
theorem beq_tf : (true == false) = false := rfl
theorem setbox (h : Heap) (a b c : Blk) : (h ++ [a, b]).set (h.length + 1) c = h ++ [a, c] := by rw [set_end_add]; rfl
-- find117
theorem loop_changes (d : Nat) (c : Bool) (l : List Ver) (time : Int) (hs : l.length < 1099511627776) (hfn : ∀ v ∈ l, v.row.vs.length < 4294967296) (ht : 0 ≤ time ∧ time ≤ 40) : ∃ h' done, LoopK (runD tab noExt (d + 2)) (drawI (runD tab noExt (d + 2))) [0, 1, 5, 11] [5] L117x0 1099511627775 [(0, .sl c 4 (l.map Ver.cells)), (1, .int .i64 time), (5, .ref 0 0 0 0 false), (11, .int .i64 0)] [.nest 0 3 []] = some (.exit 0, [(5, .ref 0 done.length 0 done.length false)], h') ∧ Grown fdChange 0 h' done ((chgs l time keys5).map chgU) := by
  obtain ⟨⟨h', done⟩, ⟨g1, g2⟩, e⟩ := LoopK_inv (run := runD tab noExt (d + 2)) (draw := drawI (runD tab noExt (d + 2))) (live := [0, 1, 5, 11]) (out := [5]) (c := L117x0) 5
    (fun i (b : Heap × List (List V)) => Grown fdChange 0 b.1 b.2 ((chgs l time (keys5.take i)).map chgU) ∧ b.2.length ≤ 2 * i)
    (fun i b => [(0, .sl c 4 (l.map Ver.cells)), (1, .int .i64 time), (5, .ref 0 b.2.length 0 b.2.length false), (11, .int .i64 (i : Nat))]) (fun b => b.1) (fun b => some (.exit 0, [(5, .ref 0 b.2.length 0 b.2.length false)], b.1))
    (fun b K hb => by
      rw [LoopK_eq]
      simp -implicitDefEqProofs only [go_sem, Nat.reduceBEq, Nat.reduceAdd, Nat.reduceSub, Nat.reduceMul, Nat.reduceLeDiff, Nat.reduceEqDiff, Nat.reduceLT, Int.reduceNeg, Int.reduceAdd, Int.reduceSub, Int.reduceMul, Int.reduceLE, Int.reduceLT, Int.reduceEq, Int.reduceToNat, reduceCtorEq, evL117x0, B117x0, Int.lt_irrefl, Int.cast_ofNat_Int]) (fun i b K hi hb => by
      obtain ⟨h, done⟩ := b
      obtain ⟨g, glen⟩ := hb
      simp only at g glen ⊢
      have hx : keys5[i]? = some (i : Int) := by
        have h5 : i = 0 ∨ i = 1 ∨ i = 2 ∨ i = 3 ∨ i = 4 := by omega
        rcases h5 with rfl | rfl | rfl | rfl | rfl <;> rfl
      have hks : (chgs l time (keys5.take (i + 1))).map chgU = (chgs l time (keys5.take i)).map chgU ++ (chg1 (rowF l i time) (rowF l i (time + 1))).map chgU := by
        rw [take_snoc hx]
        simp [chgs]
      rw [hks]
      generalize (chgs l time (keys5.take i)).map chgU = xs at g ⊢
      have s1 := run_seen (d + 1) c l i time hs
      have s2 := run_seen (d + 1) c l i (time + 1) hs
      have m1 : ∀ v, l.find? (Ver.at i time) = some v → v.row.vs.length < 4294967296 := fun v hv => hfn v (List.mem_of_find?_eq_some hv)
      have m2 : ∀ v, l.find? (Ver.at i (time + 1)) = some v → v.row.vs.length < 4294967296 := fun v hv => hfn v (List.mem_of_find?_eq_some hv)
      unfold rowF
      generalize l.find? (Ver.at i time) = o1 at s1 m1 ⊢
      generalize l.find? (Ver.at i (time + 1)) = o2 at s2 m2 ⊢
      have hi5 : (i : Int) < 5 := by omega
      have hsm : done.length + 1 < 4294967296 := by omega
      have hsm2 : done.length + 1 + 1 < 4294967296 := by omega
      have hh := g.nest (by rfl)
      have hlt := g.lt
      rw [LoopK_eq]
      cases o1 with
      | none =>
        cases o2 with
        | none =>
          simp only [Option.getD_none, Option.isSome_none, Ver.zero, Ver.cells, Row.v, List.map_nil] at s1 s2
          have hq := run_equal (d + 1) true true [] [] (by simp)
          simp only [List.map_nil, decide_true] at hq
          refine ⟨(h ++ [.box [.int .i64 0, .int .i64 0, .int .i64 0, .sl true 3 []], .box [.int .i64 0, .int .i64 0, .int .i64 0, .sl true 3 []]], done), ⟨?_, by simp only; omega⟩, ?_⟩
          · simp only [Option.map_none, chg1, if_true, List.map_nil, List.append_nil]
            exact g.frame (fun j hj => List.getElem?_append_left hj)
          · simp -implicitDefEqProofs (disch := omega) only [go_sem, Nat.reduceBEq, Nat.reduceAdd, Nat.reduceSub, Nat.reduceMul, Nat.reduceLeDiff, Nat.reduceEqDiff, Nat.reduceLT, Int.reduceNeg, Int.reduceAdd, Int.reduceSub, Int.reduceMul, Int.reduceLE, Int.reduceLT, Int.reduceEq, Int.reduceToNat, reduceCtorEq, evL117x0, B117x0, hi5, s1, s2, beq_ft, beq_tf, hq, Row.v, List.map_nil, IntWalk.i64_in, at_end, at_end_add, set_end, set_end_add, setbox, List.append_assoc, List.length_append]
        | some vb =>
          obtain ⟨key', born, died, ⟨rc, vs⟩⟩ := vb
          have hln := m2 _ rfl
          simp only [Option.getD_none, Option.isSome_none, Option.getD_some, Option.isSome_some, Ver.zero, Ver.cells, Row.v, List.map_nil] at s1 s2
          simp only at hln
          have gf : Grown fdChange 0 (h ++ [.box [.int .i64 0, .int .i64 0, .int .i64 0, .sl true 3 []], .box [.int .i64 key', .int .i64 born, .int .i64 died, .sl rc 3 (vs.map Val.cells)]]) done xs := g.frame (fun j hj => List.getElem?_append_left hj)
          obtain ⟨w, h1, k1, k2, k3, kw, k5, k6, g2⟩ := grow_clone gf d rc vs hln true
          refine ⟨(h1.set 0 (.nest (done.length + 1) 3 (done ++ [[.int .i64 0, w, .bool true]])), done ++ [[.int .i64 0, w, .bool true]]), ⟨?_, by simp only [List.length_append, List.length_cons, List.length_nil]; omega⟩, ?_⟩
          · simp only [Option.map_none, Option.map_some, chg1, reduceCtorEq, if_false, List.nil_append, List.map_cons, List.map_nil]
            exact g2
          · rcases kw with ⟨c', rfl⟩ | ⟨id, st, n, clip, rfl⟩ <;> simp -implicitDefEqProofs (disch := omega) only [go_sem, Nat.reduceBEq, Nat.reduceAdd, Nat.reduceSub, Nat.reduceMul, Nat.reduceLeDiff, Nat.reduceEqDiff, Nat.reduceLT, Int.reduceNeg, Int.reduceAdd, Int.reduceSub, Int.reduceMul, Int.reduceLE, Int.reduceLT, Int.reduceEq, Int.reduceToNat, reduceCtorEq, evL117x0, B117x0, hi5, s1, s2, beq_ft, beq_tf, Row.v, List.map_nil, IntWalk.i64_in, at_end, at_end_add, set_end, set_end_add, setbox, List.append_assoc, List.length_append, k1, k2, hsm, elemsN, elemN, listN, appendN, okN, small]
      | some va =>
        cases o2 with
        | none =>
          obtain ⟨key', born, died, ⟨rc, vs⟩⟩ := va
          have hln := m1 _ rfl
          simp only [Option.getD_none, Option.isSome_none, Option.getD_some, Option.isSome_some, Ver.zero, Ver.cells, Row.v, List.map_nil] at s1 s2
          simp only at hln
          have gf : Grown fdChange 0 (h ++ [.box [.int .i64 key', .int .i64 born, .int .i64 died, .sl rc 3 (vs.map Val.cells)], .box [.int .i64 0, .int .i64 0, .int .i64 0, .sl true 3 []]]) done xs := g.frame (fun j hj => List.getElem?_append_left hj)
          obtain ⟨w, h1, k1, k2, k3, kw, k5, k6, g2⟩ := grow_clone gf d rc vs hln false
          refine ⟨(h1.set 0 (.nest (done.length + 1) 3 (done ++ [[.int .i64 0, w, .bool false]])), done ++ [[.int .i64 0, w, .bool false]]), ⟨?_, by simp only [List.length_append, List.length_cons, List.length_nil]; omega⟩, ?_⟩
          · simp only [Option.map_none, Option.map_some, chg1, reduceCtorEq, if_false, List.nil_append, List.append_nil, List.map_cons, List.map_nil]
            exact g2
          · rcases kw with ⟨c', rfl⟩ | ⟨id, st, n, clip, rfl⟩ <;> simp -implicitDefEqProofs (disch := omega) only [go_sem, Nat.reduceBEq, Nat.reduceAdd, Nat.reduceSub, Nat.reduceMul, Nat.reduceLeDiff, Nat.reduceEqDiff, Nat.reduceLT, Int.reduceNeg, Int.reduceAdd, Int.reduceSub, Int.reduceMul, Int.reduceLE, Int.reduceLT, Int.reduceEq, Int.reduceToNat, reduceCtorEq, evL117x0, B117x0, hi5, s1, s2, beq_ft, beq_tf, Row.v, List.map_nil, IntWalk.i64_in, at_end, at_end_add, set_end, set_end_add, setbox, List.append_assoc, List.length_append, k1, k2, hsm, elemsN, elemN, listN, appendN, okN, small]
        | some vb =>
          obtain ⟨key', born, died, ⟨rc, vs⟩⟩ := va
          obtain ⟨key2, born2, died2, ⟨rc2, vs2⟩⟩ := vb
          have hln := m1 _ rfl
          have hln2 := m2 _ rfl
          simp only [Option.getD_some, Option.isSome_some, Ver.cells, Row.v] at s1 s2
          simp only at hln hln2
          have hq := run_equal (d + 1) rc rc2 vs vs2 (by omega)
          have gf : Grown fdChange 0 (h ++ [.box [.int .i64 key', .int .i64 born, .int .i64 died, .sl rc 3 (vs.map Val.cells)], .box [.int .i64 key2, .int .i64 born2, .int .i64 died2, .sl rc2 3 (vs2.map Val.cells)]]) done xs := g.frame (fun j hj => List.getElem?_append_left hj)
          by_cases hvs : vs = vs2
          · refine ⟨(h ++ [.box [.int .i64 key', .int .i64 born, .int .i64 died, .sl rc 3 (vs.map Val.cells)], .box [.int .i64 key2, .int .i64 born2, .int .i64 died2, .sl rc2 3 (vs2.map Val.cells)]], done), ⟨?_, by simp only; omega⟩, ?_⟩
            rotate_left
            · simp -implicitDefEqProofs (disch := omega) only [go_sem, Nat.reduceBEq, Nat.reduceAdd, Nat.reduceSub, Nat.reduceMul, Nat.reduceLeDiff, Nat.reduceEqDiff, Nat.reduceLT, Int.reduceNeg, Int.reduceAdd, Int.reduceSub, Int.reduceMul, Int.reduceLE, Int.reduceLT, Int.reduceEq, Int.reduceToNat, reduceCtorEq, evL117x0, B117x0, hi5, s1, s2, beq_ft, beq_tf, Row.v, List.map_nil, IntWalk.i64_in, at_end, at_end_add, set_end, set_end_add, setbox, List.append_assoc, List.length_append, hq, (eq_true hvs : (vs = vs2) = True)]
            · simp only [Option.map_some, chg1, hvs, if_true, List.map_nil, List.append_nil]
              first | exact gf | (rw [hvs] at gf; exact gf)
          · obtain ⟨w, h1, k1, k2, k3, kw, k5, k6, g2⟩ := grow_clone gf d rc vs hln false
            have hb1 : (h1.set 0 (.nest (done.length + 1) 3 (done ++ [[.int .i64 0, w, .bool false]])))[h.length + 1]? = some (.box [.int .i64 key2, .int .i64 born2, .int .i64 died2, .sl rc2 3 (vs2.map Val.cells)]) := by
              rw [List.getElem?_set_ne (by omega), k5 _ (by simp), at_end_add]
              rfl
            obtain ⟨w2, h2, j1, j2, j3, jw, j5, j6, g3⟩ := grow_clone g2 d rc2 vs2 hln2 true
            simp only [List.length_append, List.length_cons, List.length_nil, Nat.zero_add] at j2 g3
            refine ⟨(h2.set 0 (.nest (done.length + 1 + 1) 3 (done ++ [[.int .i64 0, w, .bool false]] ++ [[.int .i64 0, w2, .bool true]])), done ++ [[.int .i64 0, w, .bool false]] ++ [[.int .i64 0, w2, .bool true]]), ⟨?_, by simp only [List.length_append, List.length_cons, List.length_nil]; omega⟩, ?_⟩
            · have hne : ¬ (some vs = some vs2) := fun e => hvs (by injection e)
              simp only [Option.map_some, chg1, hne, if_false, List.map_append, List.map_cons, List.map_nil]
              rw [← List.append_assoc]
              exact g3
            · rcases kw with ⟨c', rfl⟩ | ⟨id, st, n, clip, rfl⟩ <;> rcases jw with ⟨c2, rfl⟩ | ⟨id2, st2, n2, clip2, rfl⟩ <;> simp -implicitDefEqProofs (disch := omega) only [go_sem, Nat.reduceBEq, Nat.reduceAdd, Nat.reduceSub, Nat.reduceMul, Nat.reduceLeDiff, Nat.reduceEqDiff, Nat.reduceLT, Int.reduceNeg, Int.reduceAdd, Int.reduceSub, Int.reduceMul, Int.reduceLE, Int.reduceLT, Int.reduceEq, Int.reduceToNat, reduceCtorEq, evL117x0, B117x0, hi5, s1, s2, beq_ft, beq_tf, Row.v, List.map_nil, IntWalk.i64_in, at_end, at_end_add, set_end, set_end_add, setbox, List.append_assoc, List.length_append, hq, (eq_false hvs : (vs = vs2) = False), k1, k2, j1, j2, hb1, hsm, hsm2, elemsN, elemN, listN, appendN, okN, small]) 1099511627775 (by omega) ([.nest 0 3 []], []) ⟨Grown.start rfl, by simp⟩
  rw [List.take_of_length_le (by simp [keys5])] at g1
  exact ⟨h', done, e, g1⟩
-- find172
theorem clip_change (d : Nat) {h : Heap} {n : Nat} {cont : List (List V)} (hb : h[0]? = some (.nest n 3 cont)) (hn : cont.length = n) : callX (runD tab noExt (d + 1)) h 2 172 [.ref 0 n 0 n false] = some (.ref 0 n 0 n true, h) := by
  simp only [callX, callK]
  rw [runD_eq find172 _ _ _ (by simp)]
  simp -implicitDefEqProofs (disch := omega) only [go_sem, Nat.reduceBEq, Nat.reduceAdd, Nat.reduceSub, Nat.reduceMul, Nat.reduceLeDiff, Nat.reduceEqDiff, Nat.reduceLT, Int.reduceNeg, Int.reduceAdd, Int.reduceSub, Int.reduceMul, Int.reduceLE, Int.reduceLT, Int.reduceEq, Int.reduceToNat, reduceCtorEq, Bool.true_or, resOk, hb, hn]
/-- The changes between a time and the next one. -/
def chgsOk (l : List Ver) (time : Int) : List Chg := if versOk l ∧ 0 ≤ time ∧ time ≤ 40 then chgs l time keys5 else []
-- find117
theorem own_changes (d : Nat) (c : Bool) (l : List Ver) (time : Int) (hs : l.length < 1099511627776) (hfn : ∀ v ∈ l, v.row.vs.length < 4294967296) (ht : 0 ≤ time ∧ time ≤ 40) : ∃ v hc ids, runD tab noExt (d + 3) 117 [.sl c 4 (l.map Ver.cells), .int .i64 time] [] = some ([v], hc) ∧ OwnF hc (.sub fdChange) v (.sub ((chgs l time keys5).map chgU)) ids ∧ ids.Nodup := by
  obtain ⟨h', done, e, g⟩ := loop_changes d c l time hs hfn ht
  obtain ⟨ids, o1, o2⟩ := g.own (n := done.length) (clip := true) rfl
  refine ⟨_, h', ids, ?_, o1, o2⟩
  have hc := clip_change (d + 1) (g.nest (by rfl)) rfl
  rw [runD_eq find117 _ _ _ (by simp)]
  simp -implicitDefEqProofs (disch := omega) only [go_sem, Nat.reduceBEq, Nat.reduceAdd, Nat.reduceSub, Nat.reduceMul, Nat.reduceLeDiff, Nat.reduceEqDiff, Nat.reduceLT, Int.reduceNeg, Int.reduceAdd, Int.reduceSub, Int.reduceMul, Int.reduceLE, Int.reduceLT, Int.reduceEq, Int.reduceToNat, reduceCtorEq]
  try simp -implicitDefEqProofs only [go_sem, Nat.reduceBEq, Nat.reduceAdd, Nat.reduceSub, Nat.reduceMul, Nat.reduceLeDiff, Nat.reduceEqDiff, Nat.reduceLT, Int.reduceNeg, Int.reduceAdd, Int.reduceSub, Int.reduceMul, Int.reduceLE, Int.reduceLT, Int.reduceEq, Int.reduceToNat, reduceCtorEq] at e
  rw [e]
  simp -implicitDefEqProofs (disch := omega) only [go_sem, Nat.reduceBEq, Nat.reduceAdd, Nat.reduceSub, Nat.reduceMul, Nat.reduceLeDiff, Nat.reduceEqDiff, Nat.reduceLT, Int.reduceNeg, Int.reduceAdd, Int.reduceSub, Int.reduceMul, Int.reduceLE, Int.reduceLT, Int.reduceEq, Int.reduceToNat, reduceCtorEq, hc]
-- find49
theorem own_ChangesOf (d : Nat) (c : Bool) (l : List Ver) (time : Int) (hs : l.length < 1099511627776) (hsh : ShortVs l) (hfn : ∀ v ∈ l, v.row.vs.length < 4294967296) (i1 : -9223372036854775808 ≤ time ∧ time ≤ 9223372036854775807) : ∃ v hc ids, runD tab noExt (d + 9) 49 [.sl c 4 (l.map Ver.cells), .int .i64 time] [] = some ([v], hc) ∧ OwnF hc (.sub fdChange) v (.sub ((chgsOk l time).map chgU)) ids ∧ ids.Nodup := by
  have hv := run_versI d c l hs hsh
  have hb := run_between (d + 7) time 0 40
  unfold chgsOk
  rw [runD_eq find49 _ _ _ (by simp)]
  by_cases hok : versOk l = true
  · by_cases ht : 0 ≤ time ∧ time ≤ 40
    · rw [if_pos ⟨hok, ht⟩]
      obtain ⟨v1, hc, is0, e1, e2, e3⟩ := own_changes (d + 5) c l time hs hfn ht
      obtain ⟨w, h1, js, k1, k2, k3, k4, k5, k6⟩ := own_call (h := []) (args := [.sl c 4 (l.map Ver.cells), .int .i64 time]) (by simp only [pureDAs, mapO, pureDA, pureD]) e1 e2 e3
      refine ⟨w, h1, js, ?_, k2, k3⟩
      rcases own_cases k2 with ⟨c', rfl⟩ | ⟨id, st, n, clip, rfl⟩ <;> simp -implicitDefEqProofs (disch := first | omega | assumption) only [go_sem, Nat.reduceBEq, Nat.reduceAdd, Nat.reduceSub, Nat.reduceMul, Nat.reduceLeDiff, Nat.reduceEqDiff, Nat.reduceLT, Int.reduceNeg, Int.reduceAdd, Int.reduceSub, Int.reduceMul, Int.reduceLE, Int.reduceLT, Int.reduceEq, Int.reduceToNat, reduceCtorEq, hv, hb, hok, (eq_true ht : (0 ≤ time ∧ time ≤ 40) = True), k1, resOk]
    · rw [if_neg (fun h => ht h.2)]
      refine ⟨.sl true 3 [], [], [], ?_, own_nil rfl, List.nodup_nil⟩
      simp -implicitDefEqProofs (disch := omega) only [go_sem, Nat.reduceBEq, Nat.reduceAdd, Nat.reduceSub, Nat.reduceMul, Nat.reduceLeDiff, Nat.reduceEqDiff, Nat.reduceLT, Int.reduceNeg, Int.reduceAdd, Int.reduceSub, Int.reduceMul, Int.reduceLE, Int.reduceLT, Int.reduceEq, Int.reduceToNat, reduceCtorEq, hv, hb, hok, (eq_false ht : (0 ≤ time ∧ time ≤ 40) = False)]
  · rw [if_neg (fun h => hok h.1)]
    have hok' : versOk l = false := by simpa using hok
    refine ⟨.sl true 3 [], [], [], ?_, own_nil rfl, List.nodup_nil⟩
    simp -implicitDefEqProofs (disch := omega) only [go_sem, Nat.reduceBEq, Nat.reduceAdd, Nat.reduceSub, Nat.reduceMul, Nat.reduceLeDiff, Nat.reduceEqDiff, Nat.reduceLT, Int.reduceNeg, Int.reduceAdd, Int.reduceSub, Int.reduceMul, Int.reduceLE, Int.reduceLT, Int.reduceEq, Int.reduceToNat, reduceCtorEq, hv, hok']
end Go.Proofs.Ytnnjpiepoeknnaa.PE
/- Changes between two times: the reference's; the core of the exact statement. -/
set_option linter.unusedVariables false
set_option linter.unusedSimpArgs false
set_option maxHeartbeats 4000000
namespace Go.Proofs.Ytnnjpiepoeknnaa.PE
open Go.RowKit

def Chg.cells (c : Chg) : List V := [.int .i64 c.n, .sl false 3 (c.vs.map Val.cells), .bool c.come]
theorem chg1_len (a b : Option (List Val)) : (chg1 a b).length ≤ 2 := by
  unfold chg1
  split
  · simp
  · cases a <;> cases b <;> simp
/-- The same, of the reference's words. -/
def chgsV (l : List Ver) (time : Int) (ks : List Int) : List Chg := ks.flatMap fun k => chg1 (rowV l k time) (rowV l k (time + 1))
theorem chgsV_eq (l : List Ver) (time : Int) (hok : versOk l = true) (ks : List Int) : chgsV l time ks = chgs l time ks := by
  have e : ∀ k t, rowV l k t = rowF l k t := fun k t => by unfold rowV rowF rowAt; rw [hok]; rfl
  unfold chgsV chgs
  simp only [e]
-- find47
theorem loop_changesS (d : Nat) (c : Bool) (l : List Ver) (time : Int) (hs : l.length < 1099511627776) (hsh : ShortVs l) (hfn : ∀ v ∈ l, v.row.vs.length < 4294967296) (ht : 0 ≤ time ∧ time ≤ 40) :
    LoopS (runD tab noExt (d + 6)) (drawI (runD tab noExt (d + 6))) [0, 1, 5, 6] [5] L47x0 2 1099511627775 [(0, .sl c 4 (l.map Ver.cells)), (1, .int .i64 time), (5, .ref 1 0 0 0 false), (6, .int .i64 0)] [.rows 0 3 [], .rows 0 3 []] =
      some (.exit 0, [(5, .ref 1 (chgsV l time keys5).length 0 (chgsV l time keys5).length false)], [.rows 0 3 [], .rows (chgsV l time keys5).length 3 ((chgsV l time keys5).map Chg.cells)]) := by
  obtain ⟨b', ⟨g1, g2⟩, e⟩ := LoopS_inv (run := runD tab noExt (d + 6)) (draw := drawI (runD tab noExt (d + 6))) (live := [0, 1, 5, 6]) (out := [5]) (c := L47x0) (n0 := 2) 5
    (fun i (b : List Chg) => b = chgsV l time (keys5.take i) ∧ b.length ≤ 2 * i)
    (fun i b => [(0, .sl c 4 (l.map Ver.cells)), (1, .int .i64 time), (5, .ref 1 b.length 0 b.length false), (6, .int .i64 (i : Nat))]) (fun b => [.rows 0 3 [], .rows b.length 3 (b.map Chg.cells)]) (fun b => some (.exit 0, [(5, .ref 1 b.length 0 b.length false)], [.rows 0 3 [], .rows b.length 3 (b.map Chg.cells)]))
    (fun b K hb => by
      rw [LoopS_eq]
      simp -implicitDefEqProofs only [go_sem, Nat.reduceBEq, Nat.reduceAdd, Nat.reduceSub, Nat.reduceMul, Nat.reduceLeDiff, Nat.reduceEqDiff, Nat.reduceLT, Int.reduceNeg, Int.reduceAdd, Int.reduceSub, Int.reduceMul, Int.reduceLE, Int.reduceLT, Int.reduceEq, Int.reduceToNat, reduceCtorEq, evL47x0, B47x0, Int.lt_irrefl, Int.cast_ofNat_Int]) (fun i b K hi hb => by
      obtain ⟨g, glen⟩ := hb
      have hx : keys5[i]? = some (i : Int) := by
        have h5 : i = 0 ∨ i = 1 ∨ i = 2 ∨ i = 3 ∨ i = 4 := by omega
        rcases h5 with rfl | rfl | rfl | rfl | rfl <;> rfl
      refine ⟨b ++ chg1 (rowV l i time) (rowV l i (time + 1)), ⟨?_, ?_⟩, ?_⟩
      · rw [take_snoc hx, g]
        simp [chgsV]
      · rw [List.length_append]
        have := chg1_len (rowV l i time) (rowV l i (time + 1))
        omega
      have s1 := run_seenS d c l i time hs hsh hfn
      have s2 := run_seenS d c l i (time + 1) hs hsh hfn
      have m1 : ∀ v, rowAt l i time = some v → v.row.vs.length < 1099511627776 := fun v hv => by
        have : rowV l i time = some v.row.vs := by unfold rowV; rw [hv]; rfl
        obtain ⟨u, hu, e⟩ := rowV_mem this
        rw [← e]
        have := hfn u hu
        omega
      unfold rowV
      generalize rowAt l i time = o1 at s1 m1 ⊢
      generalize rowAt l i (time + 1) = o2 at s2 ⊢
      have hi5 : (i : Int) < 5 := by omega
      have hsm : b.length + 1 < 4294967296 := by omega
      have hsm2 : b.length + 1 + 1 < 4294967296 := by omega
      clear g
      rw [LoopS_eq]
      rcases o1 with _ | ⟨key1, born1, died1, ⟨rc1, vs1⟩⟩ <;> rcases o2 with _ | ⟨key2, born2, died2, ⟨rc2, vs2⟩⟩ <;>
        simp only [Option.getD_none, Option.isSome_none, Option.getD_some, Option.isSome_some, Option.isNone_none, Option.isNone_some, Ver.zero, List.map_nil] at s1 s2
      · have hq := run_same3 (d + 5) true true [] [] (by simp)
        simp only [List.map_nil, decide_true] at hq
        simp -implicitDefEqProofs (disch := omega) only [go_sem, Nat.reduceBEq, Nat.reduceAdd, Nat.reduceSub, Nat.reduceMul, Nat.reduceLeDiff, Nat.reduceEqDiff, Nat.reduceLT, Int.reduceNeg, Int.reduceAdd, Int.reduceSub, Int.reduceMul, Int.reduceLE, Int.reduceLT, Int.reduceEq, Int.reduceToNat, reduceCtorEq, evL47x0, B47x0, hi5, s1, s2, Row.v, List.map_nil, IntWalk.i64_in, beq_ft, beq_tf, hq, Option.map_none, chg1, if_true, List.append_nil]
      · simp -implicitDefEqProofs (disch := omega) only [go_sem, Nat.reduceBEq, Nat.reduceAdd, Nat.reduceSub, Nat.reduceMul, Nat.reduceLeDiff, Nat.reduceEqDiff, Nat.reduceLT, Int.reduceNeg, Int.reduceAdd, Int.reduceSub, Int.reduceMul, Int.reduceLE, Int.reduceLT, Int.reduceEq, Int.reduceToNat, reduceCtorEq, evL47x0, B47x0, hi5, s1, s2, Row.v, List.map_nil, IntWalk.i64_in, beq_ft, beq_tf, hsm, Option.map_none, Option.map_some, chg1, reduceCtorEq, if_false, List.nil_append, List.map_append, List.map_cons, List.map_nil, Chg.cells, List.length_append]
      · simp -implicitDefEqProofs (disch := omega) only [go_sem, Nat.reduceBEq, Nat.reduceAdd, Nat.reduceSub, Nat.reduceMul, Nat.reduceLeDiff, Nat.reduceEqDiff, Nat.reduceLT, Int.reduceNeg, Int.reduceAdd, Int.reduceSub, Int.reduceMul, Int.reduceLE, Int.reduceLT, Int.reduceEq, Int.reduceToNat, reduceCtorEq, evL47x0, B47x0, hi5, s1, s2, Row.v, List.map_nil, IntWalk.i64_in, beq_ft, beq_tf, hsm, Option.map_none, Option.map_some, chg1, reduceCtorEq, if_false, List.append_nil, List.map_append, List.map_cons, List.map_nil, Chg.cells, List.length_append]
      · have hq := run_same3 (d + 5) false false vs1 vs2 (m1 _ rfl)
        by_cases hvs : vs1 = vs2
        · simp -implicitDefEqProofs (disch := omega) only [go_sem, Nat.reduceBEq, Nat.reduceAdd, Nat.reduceSub, Nat.reduceMul, Nat.reduceLeDiff, Nat.reduceEqDiff, Nat.reduceLT, Int.reduceNeg, Int.reduceAdd, Int.reduceSub, Int.reduceMul, Int.reduceLE, Int.reduceLT, Int.reduceEq, Int.reduceToNat, reduceCtorEq, evL47x0, B47x0, hi5, s1, s2, Row.v, List.map_nil, IntWalk.i64_in, beq_ft, beq_tf, hq, Option.map_some, chg1, (eq_true hvs : (vs1 = vs2) = True), (eq_true (by rw [hvs]) : (some vs1 = some vs2) = True), if_true, List.append_nil]
        · have hne : ¬ (some vs1 = some vs2) := fun e => hvs (by injection e)
          simp -implicitDefEqProofs (disch := omega) only [go_sem, Nat.reduceBEq, Nat.reduceAdd, Nat.reduceSub, Nat.reduceMul, Nat.reduceLeDiff, Nat.reduceEqDiff, Nat.reduceLT, Int.reduceNeg, Int.reduceAdd, Int.reduceSub, Int.reduceMul, Int.reduceLE, Int.reduceLT, Int.reduceEq, Int.reduceToNat, reduceCtorEq, evL47x0, B47x0, hi5, s1, s2, Row.v, List.map_nil, IntWalk.i64_in, beq_ft, beq_tf, hq, hsm, hsm2, hne, Option.map_some, chg1, (eq_false hvs : (vs1 = vs2) = False), if_false, List.map_append, List.map_cons, List.map_nil, Chg.cells, List.length_append, List.append_assoc]) 1099511627775 (by omega) [] ⟨by simp [chgsV], by simp⟩
  rw [List.take_of_length_le (by simp [keys5])] at g1
  subst g1
  exact e
-- find47
theorem run_ChangesOfS (d : Nat) (c : Bool) (l : List Ver) (time : Int) (hs : l.length < 1099511627776) (hsh : ShortVs l) (hfn : ∀ v ∈ l, v.row.vs.length < 4294967296) : retP (runD tab noExt (d + 7)) 47 [.sl c 4 (l.map Ver.cells), .int .i64 time] = some [.sl false 3 ((chgsOk l time).map Chg.cells)] := by
  have hv := run_versS (d + 1) c l hs hsh
  have hb := run_l1In (d + 5) time 0 40
  unfold chgsOk
  rw [retP, runD_eq find47 _ _ _ (by simp)]
  by_cases hok : versOk l = true
  · by_cases ht : 0 ≤ time ∧ time ≤ 40
    · rw [if_pos ⟨hok, ht⟩]
      have hl := loop_changesS d c l time hs hsh hfn ht
      rw [chgsV_eq l time hok] at hl
      have e : List.take (chgs l time keys5).length ((chgs l time keys5).map Chg.cells) = (chgs l time keys5).map Chg.cells := List.take_of_length_le (by simp)
      simp -implicitDefEqProofs (disch := omega) only [go_sem, Nat.reduceBEq, Nat.reduceAdd, Nat.reduceSub, Nat.reduceMul, Nat.reduceLeDiff, Nat.reduceEqDiff, Nat.reduceLT, Int.reduceNeg, Int.reduceAdd, Int.reduceSub, Int.reduceMul, Int.reduceLE, Int.reduceLT, Int.reduceEq, Int.reduceToNat, reduceCtorEq, hv, hb, hok, (eq_true ht : (0 ≤ time ∧ time ≤ 40) = True)]
      try simp -implicitDefEqProofs only [go_sem, Nat.reduceBEq, Nat.reduceAdd, Nat.reduceSub, Nat.reduceMul, Nat.reduceLeDiff, Nat.reduceEqDiff, Nat.reduceLT, Int.reduceNeg, Int.reduceAdd, Int.reduceSub, Int.reduceMul, Int.reduceLE, Int.reduceLT, Int.reduceEq, Int.reduceToNat, reduceCtorEq] at hl
      rw [hl]
      simp -implicitDefEqProofs (disch := omega) only [go_sem, Nat.reduceBEq, Nat.reduceAdd, Nat.reduceSub, Nat.reduceMul, Nat.reduceLeDiff, Nat.reduceEqDiff, Nat.reduceLT, Int.reduceNeg, Int.reduceAdd, Int.reduceSub, Int.reduceMul, Int.reduceLE, Int.reduceLT, Int.reduceEq, Int.reduceToNat, reduceCtorEq, e]
    · rw [if_neg (fun h => ht h.2)]
      simp -implicitDefEqProofs (disch := omega) only [go_sem, Nat.reduceBEq, Nat.reduceAdd, Nat.reduceSub, Nat.reduceMul, Nat.reduceLeDiff, Nat.reduceEqDiff, Nat.reduceLT, Int.reduceNeg, Int.reduceAdd, Int.reduceSub, Int.reduceMul, Int.reduceLE, Int.reduceLT, Int.reduceEq, Int.reduceToNat, reduceCtorEq, hv, hb, hok, (eq_false ht : (0 ≤ time ∧ time ≤ 40) = False)]
  · rw [if_neg (fun h => hok h.1)]
    have hok' : versOk l = false := by simpa using hok
    simp -implicitDefEqProofs (disch := omega) only [go_sem, Nat.reduceBEq, Nat.reduceAdd, Nat.reduceSub, Nat.reduceMul, Nat.reduceLeDiff, Nat.reduceEqDiff, Nat.reduceLT, Int.reduceNeg, Int.reduceAdd, Int.reduceSub, Int.reduceMul, Int.reduceLE, Int.reduceLT, Int.reduceEq, Int.reduceToNat, reduceCtorEq, hv, hok']
end Go.Proofs.Ytnnjpiepoeknnaa.PE
/- Changes between two times: what both functions come to, of trees. -/
set_option linter.unusedVariables false
set_option linter.unusedSimpArgs false
set_option maxHeartbeats 4000000
namespace Go.Proofs.Ytnnjpiepoeknnaa.PE
open Go.RowKit

theorem chg_pur (v : Chg) : PurR fdChange v.cells (chgU v) := purR_mk_Change (pur_map val_pur _ 3 rfl _)
theorem chg1_vs {a b : Option (List Val)} {x : Chg} (h : x ∈ chg1 a b) : a = some x.vs ∨ b = some x.vs := by
  unfold chg1 at h
  split at h
  · cases h
  · cases a <;> cases b <;> simp at h
    · exact .inr (by rw [h])
    · exact .inl (by rw [h])
    · rcases h with h | h
      · exact .inl (by rw [h])
      · exact .inr (by rw [h])
theorem chgsOk_vs {a b : List Ver} (h : a.map verU = b.map verU) (t : Int) : chgsOk a t = chgsOk b t := by
  unfold chgsOk
  rw [versOk_vs h]
  by_cases hok : versOk b = true
  · have ha : versOk a = true := by rw [versOk_vs h, hok]
    rw [← chgsV_eq a t ha, ← chgsV_eq b t hok]
    unfold chgsV
    simp only [rowV_vs h]
  · rw [if_neg (fun h => hok h.1), if_neg (fun h => hok h.1)]
theorem sum_all {c : List U → Nat} {n : Nat} : ∀ {xs : List (List U)}, (∀ x ∈ xs, c x ≤ n) → sumU c xs ≤ n * xs.length
  | [], _ => by simp [sumU]
  | x :: xs, h => by
    have := sum_all (fun y hy => h y (List.mem_cons_of_mem _ hy)) (xs := xs)
    have := h x List.mem_cons_self
    simp only [sumU, List.length_cons, Nat.mul_add, Nat.mul_one]
    omega
theorem all_of {P : List U → Prop} : ∀ {xs : List (List U)}, (∀ x ∈ xs, P x) → AllU P xs
  | [], _ => trivial
  | x :: xs, h => ⟨h x List.mem_cons_self, all_of (fun y hy => h y (List.mem_cons_of_mem _ hy))⟩
theorem vals_len {n m : Nat} {vs : List Val} (h1 : vs.length ≤ n) (h2 : ∀ v ∈ vs, v.s.size ≤ m) : LenF n m (.sub fdValue) (.sub (vs.map valU)) := by
  simp only [LenF, List.length_map]
  refine ⟨h1, all_of (fun x hx => ?_)⟩
  obtain ⟨v, hv, rfl⟩ := List.mem_map.1 hx
  simp only [fdValue, valU, LenR, LenF, true_and, and_true]
  exact h2 v hv
theorem vals_cnt (vs : List Val) : cntF (.sub fdValue) (.sub (vs.map valU)) = 3 * vs.length := by
  simp only [cntF]
  induction vs with
  | nil => rfl
  | cons v vs ih =>
    have e : cntR fdValue (valU v) = 3 := rfl
    simp only [List.map_cons, sumU, e, ih, List.length_cons]
    omega
theorem core_ChangesOf {x0 : List (List U)} (h0 : ∃ p, PurF (.sub fdVersion) p (.sub x0)) (L0 : LenF 1048576 1048576 (.sub fdVersion) (.sub x0)) (n1 : Int) (i1 : -9223372036854775808 ≤ n1 ∧ n1 ≤ 9223372036854775807) :
    ∃ ux, LenF big big (.sub fdChange) (.sub ux) ∧ (cntF (.sub fdChange) (.sub ux) : Int) ≤ 2305843009213693952 ∧
      (∀ {q0 : V}, PurF (.sub fdVersion) q0 (.sub x0) → ∃ w, retP (runD tab noExt 60) 47 [q0, .int .i64 n1] = some [w] ∧ PurF (.sub fdChange) w (.sub ux)) ∧
      (∀ {q0 : V}, PurF (.sub fdVersion) q0 (.sub x0) → ∃ v hc ids, runD tab noExt 60 49 [q0, .int .i64 n1] [] = some ([v], hc) ∧ OwnF hc (.sub fdChange) v (.sub ux) ids ∧ ids.Nodup) := by
  obtain ⟨p0, g0⟩ := h0
  obtain ⟨_, _, _, z0⟩ := purS_Version g0
  obtain ⟨l, rfl, rfl⟩ := versU_of z0
  obtain ⟨v1, v2⟩ := vers_lim L0
  have hlen : (chgsOk l n1).length ≤ 10 := by
    unfold chgsOk
    split
    · unfold chgs
      simp only [keys5, List.flatMap_cons, List.flatMap_nil, List.length_append, List.length_nil]
      have := chg1_len (rowF l 0 n1) (rowF l 0 (n1 + 1))
      have := chg1_len (rowF l 1 n1) (rowF l 1 (n1 + 1))
      have := chg1_len (rowF l 2 n1) (rowF l 2 (n1 + 1))
      have := chg1_len (rowF l 3 n1) (rowF l 3 (n1 + 1))
      have := chg1_len (rowF l 4 n1) (rowF l 4 (n1 + 1))
      omega
    · simp
  have hmem : ∀ x ∈ chgsOk l n1, x.vs.length ≤ 1048576 ∧ ∀ w ∈ x.vs, w.s.size ≤ 1048576 := by
    intro x hx
    unfold chgsOk at hx
    split at hx
    · unfold chgs at hx
      obtain ⟨k, hk, hx⟩ := List.mem_flatMap.1 hx
      have key : ∀ t, rowF l k t = some x.vs → x.vs.length ≤ 1048576 ∧ ∀ w ∈ x.vs, w.s.size ≤ 1048576 := by
        intro t ht
        unfold rowF at ht
        obtain ⟨v, hv, e⟩ := Option.map_eq_some_iff.1 ht
        rw [← e]
        exact v2 v (List.mem_of_find?_eq_some hv)
      rcases chg1_vs hx with h | h
      · exact key _ h
      · exact key _ h
    · cases hx
  refine ⟨(chgsOk l n1).map chgU, ?_, ?_, fun k0 => ?_, fun k0 => ?_⟩
  · simp only [LenF, List.length_map]
    refine ⟨by unfold big; omega, all_of (fun x hx => ?_)⟩
    obtain ⟨v, hv, rfl⟩ := List.mem_map.1 hx
    obtain ⟨m1, m2⟩ := hmem v hv
    have := LenF_mono (n' := big) (m' := big) (by decide) (by decide) _ (vals_len m1 m2)
    simp only [fdChange, chgU, LenR]
    exact ⟨by simp [LenF], this, by simp [LenF], trivial⟩
  · have := sum_all (c := cntR fdChange) (n := 4000000) (xs := (chgsOk l n1).map chgU) (fun x hx => by
      obtain ⟨v, hv, rfl⟩ := List.mem_map.1 hx
      obtain ⟨m1, m2⟩ := hmem v hv
      have e : cntR fdChange (chgU v) = 1 + cntF (.sub fdValue) (.sub (v.vs.map valU)) + 1 := by simp only [fdChange, chgU, cntR, cntF_int, cntF_bool]; omega
      rw [e, vals_cnt]
      omega)
    rw [List.length_map] at this
    simp only [cntF]
    omega
  · obtain ⟨c, l2, rfl, f⟩ := vers_each k0
    obtain ⟨s1, s2, s3, _⟩ := vers_lims f L0
    rw [← chgsOk_vs f]
    exact ⟨_, run_ChangesOfS 53 c l2 n1 (by omega) s2 s3, pur_map chg_pur _ 3 rfl _⟩
  · obtain ⟨c, l2, rfl, f⟩ := vers_each k0
    obtain ⟨s1, s2, s3, _⟩ := vers_lims f L0
    rw [← chgsOk_vs f]
    exact own_ChangesOf 51 c l2 n1 (by omega) s2 s3 i1
end Go.Proofs.Ytnnjpiepoeknnaa.PE
/- The exact statement of FnExactChangesOf. -/
set_option linter.unusedVariables false
set_option linter.unusedSimpArgs false
set_option maxHeartbeats 8000000
namespace Go.Proofs.Ytnnjpiepoeknnaa.PE
open Go.RowKit

-- find10
theorem law_FnExactChangesOf {p0 : V} {x0 : List (List U)} (n1 : Int) (g0 : PurF (.sub fdVersion) p0 (.sub x0)) (B0 : LenF 9223372036854775807 9223372036854775807 (.sub fdVersion) (.sub x0)) (i1 : -9223372036854775808 ≤ n1 ∧ n1 ≤ 9223372036854775807) : ∃ d h1, runD tab noExt d 10 [p0, .int .i64 n1] [] = some ([.bool true], h1) := by
  refine ⟨61, ?_⟩
  rw [runD_eq find10 _ _ _ (by simp)]
  obtain ⟨cl0, ct0, rfl, hz0⟩ := purS_Version g0
  have hl0 := Zip2_len hz0
  have z0 := run_szVersionS 56 (1048576) g0 B0 (by omega) (by omega)
  have y0 := szF_spec (N := 1048576) (.sub fdVersion) (.sub x0) (1048576) (by decide) (by omega)
  generalize szF (.sub fdVersion) (.sub x0) (1048576) = l0 at z0 y0
  by_cases q0 : l0 < 0
  · simp -implicitDefEqProofs (disch := omega) only [go_sem, Nat.reduceBEq, Nat.reduceAdd, Nat.reduceSub, Nat.reduceMul, Nat.reduceLeDiff, Nat.reduceEqDiff, Nat.reduceLT, Int.reduceNeg, Int.reduceAdd, Int.reduceSub, Int.reduceMul, Int.reduceLE, Int.reduceLT, Int.reduceEq, Int.reduceToNat, reduceCtorEq, z0, q0]
    exact ⟨_, rfl⟩
  obtain ⟨y0a, L0, y0c⟩ := y0 (by omega) (by omega)
  have M0 := LenF_mono (n' := big) (m' := big) (by decide) (by decide) _ L0
  have P0 : x0.length ≤ 1048576 ∧ AllU (LenR 1048576 1048576 fdVersion) x0 := by simpa only [LenF] using L0
  obtain ⟨ux, C1, C2, cS, cI⟩ := core_ChangesOf ⟨_, g0⟩ L0 n1 i1
  obtain ⟨v0, c0, d0, r0, o0, n0'⟩ := run_toVersionS 56 g0 P0.1 P0.2
  obtain ⟨t0, h0, s0, e0, a0, u0, w0, f0, m0⟩ := own_call (h := ([] : Heap)) (args := [(.sl cl0 4 ct0)]) (by simp only [pureDAs, mapO, pureDA_pur g0]) r0 o0 n0'
  have b0 := own_ids a0 w0
  obtain ⟨qs0, xs0, ys0⟩ := pureDA_own a0 (by decide)
  obtain ⟨w, eS, gw⟩ := cS ys0
  obtain ⟨hd, eW⟩ := call_spec (h := h0) (args := [t0, .int .i64 n1]) (by simp only [pureDAs, mapO, xs0, pureDA_int, pureDA_bool, pureDA_str]) eS
  try simp only [oneOf] at eW
  obtain ⟨v1, c1, d1, r1, o1, n1'⟩ := run_toVersionS 56 g0 P0.1 P0.2
  obtain ⟨t1, h1, s1, e1, a1, u1, w1, f1, m1⟩ := own_call (h := hd) (args := [(.sl cl0 4 ct0)]) (by simp only [pureDAs, mapO, pureDA_pur g0]) r1 o1 n1'
  have b1 := own_ids a1 w1
  obtain ⟨qg1, xg1, yg1⟩ := pureDA_own a1 (by decide)
  obtain ⟨v2, c2, d2, r2, o2, n2'⟩ := cI yg1
  obtain ⟨t2, h2, s2, e2, a2, u2, w2, f2, m2⟩ := own_call (h := h1) (args := [t1, .int .i64 n1]) (by simp only [pureDAs, mapO, xg1, pureDA_int, pureDA_bool, pureDA_str]) r2 o2 n2'
  have b2 := own_ids a2 w2
  have o1x := OwnF_frame _ a1 (fun j hj => f2 j (OwnF_lt _ a1 j hj))
  obtain ⟨qG1, xG1, yG1⟩ := pureDA_own a2 (by decide)
  have EG1 := call_bool (h := h2) (args := [t2, w]) (by simp only [pureDAs, mapO, xG1, pureDA_pur gw]) (run_eqChangeS 56 yG1 gw C1)
  obtain ⟨v3, c3, d3, r3, o3, n3'⟩ := run_toVersionS 56 g0 P0.1 P0.2
  obtain ⟨t3, h3, s3, e3, a3, u3, w3, f3, m3⟩ := own_call (h := h2) (args := [(.sl cl0 4 ct0)]) (by simp only [pureDAs, mapO, pureDA_pur g0]) r3 o3 n3'
  have b3 := own_ids a3 w3
  have o2x := OwnF_frame _ o1x (fun j hj => f3 j (OwnF_lt _ o1x j hj))
  have o3x := OwnF_frame _ a2 (fun j hj => f3 j (OwnF_lt _ a2 j hj))
  obtain ⟨qA0, xA0, yA0⟩ := pureDA_own o2x (by decide)
  obtain ⟨qB0, xB0, yB0⟩ := pureDA_own a3 (by decide)
  have EA0 := call_bool (h := h3) (args := [t1, t3]) (by simp only [pureDAs, mapO, xA0, xB0]) (run_eqVersionS 56 yA0 yB0 M0)
  obtain ⟨h4, z0x, e4, a4, k4, z4, f4, m4⟩ := run_markVersionS 57 o2x u1 M0 (k := (1 : Int)) (by omega) (by omega)
  have o4x := OwnF_frame _ o3x (fun j hj => f4 j (fun hm => by have z1 := b2 j hj; have z2 := b1 j hm; omega))
  have K0 : (((1 : Int) + cntF (.sub fdVersion) (.sub x0)) < 0) = False := eq_false (by omega)
  obtain ⟨qG2, xG2, yG2⟩ := pureDA_own o4x (by decide)
  have EG2 := call_bool (h := h4) (args := [t2, w]) (by simp only [pureDAs, mapO, xG2, pureDA_pur gw]) (run_eqChangeS 56 yG2 gw C1)
  obtain ⟨h5, zG, e5, a5, k5, z5, f5, m5⟩ := run_markChangeS 57 o4x u2 C1 (k := 1) (by omega) (by omega)
  have o5x := OwnF_frame _ a4 (fun j hj => f5 j (fun hm => by have z1 := b1 j hj; have z2 := b2 j hm; omega))
  have K1 : ((1 : Int) + cntF (.sub fdChange) (.sub ux) < 0) = False := eq_false (by omega)
  obtain ⟨qH1, xH1, yH1⟩ := pureDA_own a5 (by decide)
  have EH1 := call_int (h := h5) (args := [t2, .int .i64 1]) (by simp only [pureDAs, mapO, xH1, pureDA_int]) (run_heldChangeS 57 yH1 k5 (by omega) (by omega) z5)
  obtain ⟨v6, c6, d6, r6, o6, n6'⟩ := run_toVersionS 56 g0 P0.1 P0.2
  obtain ⟨t6, h6, s6, e6, a6, u6, w6, f6, m6⟩ := own_call (h := h5) (args := [(.sl cl0 4 ct0)]) (by simp only [pureDAs, mapO, pureDA_pur g0]) r6 o6 n6'
  have b6 := own_ids a6 w6
  have o6x := OwnF_frame _ a5 (fun j hj => f6 j (OwnF_lt _ a5 j hj))
  obtain ⟨qk6, xk6, yk6⟩ := pureDA_own a6 (by decide)
  obtain ⟨v7, c7, d7, r7, o7, n7'⟩ := cI yk6
  obtain ⟨t7, h7, s7, e7, a7, u7, w7, f7, m7⟩ := own_call (h := h6) (args := [t6, .int .i64 n1]) (by simp only [pureDAs, mapO, xk6, pureDA_int, pureDA_bool, pureDA_str]) r7 o7 n7'
  have b7 := own_ids a7 w7
  have o7x := OwnF_frame _ o6x (fun j hj => f7 j (OwnF_lt _ o6x j hj))
  have o8x := OwnF_frame _ a6 (fun j hj => f7 j (OwnF_lt _ a6 j hj))
  obtain ⟨qG3, xG3, yG3⟩ := pureDA_own a7 (by decide)
  have EG3 := call_bool (h := h7) (args := [t7, w]) (by simp only [pureDAs, mapO, xG3, pureDA_pur gw]) (run_eqChangeS 56 yG3 gw C1)
  obtain ⟨qH2, xH2, yH2⟩ := pureDA_own o7x (by decide)
  have EH2 := call_int (h := h7) (args := [t2, .int .i64 1]) (by simp only [pureDAs, mapO, xH2, pureDA_int]) (run_heldChangeS 57 yH2 k5 (by omega) (by omega) z5)
  simp -implicitDefEqProofs (disch := omega) only [go_sem, Nat.reduceBEq, Nat.reduceAdd, Nat.reduceSub, Nat.reduceMul, Nat.reduceLeDiff, Nat.reduceEqDiff, Nat.reduceLT, Int.reduceNeg, Int.reduceAdd, Int.reduceSub, Int.reduceMul, Int.reduceLE, Int.reduceLT, Int.reduceEq, Int.reduceToNat, reduceCtorEq, z0, q0, K0, K1, e0, eW, e1, e2, EG1, e3, EA0, e4, EG2, e5, EH1, e6, e7, EG3, EH2]
  exact ⟨_, rfl⟩
end Go.Proofs.Ytnnjpiepoeknnaa.PE
/- Arguments of any plain kind, as they are read: values of the evaluator. -/
set_option linter.unusedVariables false
set_option linter.unusedSimpArgs false
namespace Go.Proofs.Ytnnjpiepoeknnaa.PE
open Go.RowKit

mutual
def tyF (P : Program) : Nat → TypeId → Fd → Bool
  | 0, _, _ => false
  | n + 1, t, .int k => match P.underlying t with
    | some (.int k') => decide (k' = k)
    | _ => false
  | n + 1, t, .bool => match P.underlying t with
    | some .bool => true
    | _ => false
  | n + 1, t, .str => match P.underlying t with
    | some .string => true
    | _ => false
  | n + 1, t, .sub fs => match P.underlying t with
    | some (.slice e) => decide (P.cellsOf e = fs.length) && decide (0 < fs.length) && tyR P n e fs
    | _ => false
def tyR (P : Program) : Nat → TypeId → List Fd → Bool
  | 0, _, _ => false
  | n + 1, t, fs => match P.underlying t with
    | some (.struct flds) => decide (P.cellsOf t = fs.length) && tyS P n flds.toList 0 fs
    | _ => match fs with
      | [f] => tyF P n t f
      | _ => false
def tyS (P : Program) : Nat → List Field → Nat → List Fd → Bool
  | 0, _, _, _ => false
  | n + 1, [], _, fs => fs.isEmpty
  | n + 1, fl :: r, off, fs => decide (fl.offset = off) && tyR P n fl.type (fs.take (P.cellsOf fl.type)) && decide (P.cellsOf fl.type ≤ fs.length) && tyS P n r (off + P.cellsOf fl.type) (fs.drop (P.cellsOf fl.type))
end

def B63 : Nat := 9223372036854775807
section
variable {H : Type} {enc : TypeId × Value → H} {P : Program} {w : World} {base : Nat} {spare : Nat → Bool} {held : Bool}

/-- Cells and what they are. -/
def Got (w : World) (fs : List Fd) (cs : List Value) : Prop := ∃ (ps : List V) (us : List U), PurR fs ps us ∧ LenR B63 B63 fs us ∧ ps.length = cs.length ∧ ∀ (i : Nat) (y : V), ps[i]? = some y → ∃ u, cs[i]? = some u ∧ Rep w (fun b => b < w.heap.size) u y
theorem Got.one {f : Fd} {v : Value} {p : V} {u : U} (h1 : PurF f p u) (h2 : LenF B63 B63 f u) (h3 : Rep w (fun b => b < w.heap.size) v p) : Got w [f] [v] := by
  refine ⟨[p], [u], by simp only [PurR]; exact ⟨p, [], u, [], rfl, rfl, h1, rfl, rfl⟩, by simp only [LenR]; exact ⟨h2, trivial⟩, rfl, fun i y hy => ?_⟩
  cases i with
  | zero => simp at hy; subst hy; exact ⟨v, rfl, h3⟩
  | succ i => simp at hy
theorem PurR_len : ∀ {fs : List Fd} {ps : List V} {us : List U}, PurR fs ps us → ps.length = fs.length ∧ us.length = fs.length
  | [], _, _, h => by simp only [PurR] at h; rw [h.1, h.2]; exact ⟨rfl, rfl⟩
  | f :: fs, _, _, h => by
    simp only [PurR] at h
    obtain ⟨v, c', u, x', rfl, rfl, _, h2⟩ := h
    have := PurR_len h2
    simp [this.1, this.2]
theorem PurR_app : ∀ {f1 f2 : List Fd} {p1 p2 : List V} {u1 u2 : List U}, PurR f1 p1 u1 → PurR f2 p2 u2 → PurR (f1 ++ f2) (p1 ++ p2) (u1 ++ u2)
  | [], _, _, _, _, _, h, h2 => by simp only [PurR] at h; rw [h.1, h.2]; exact h2
  | f :: f1, f2, _, p2, _, u2, h, h2 => by
    simp only [PurR] at h
    obtain ⟨v, c', u, x', rfl, rfl, h3, h4⟩ := h
    show PurR (f :: (f1 ++ f2)) _ _
    simp only [PurR]
    exact ⟨v, c' ++ p2, u, x' ++ u2, rfl, rfl, h3, PurR_app h4 h2⟩
theorem LenR_app {n m : Nat} : ∀ {f1 f2 : List Fd} {u1 u2 : List U}, u1.length = f1.length → LenR n m f1 u1 → LenR n m f2 u2 → LenR n m (f1 ++ f2) (u1 ++ u2)
  | [], _, u1, _, hl, _, h2 => by
    have : u1 = [] := List.eq_nil_of_length_eq_zero hl
    subst this
    exact h2
  | f :: f1, f2, u :: u1, u2, hl, h, h2 => by
    show LenR n m (f :: (f1 ++ f2)) (u :: (u1 ++ u2))
    simp only [LenR] at h ⊢
    exact ⟨h.1, LenR_app (by simpa using hl) h.2 h2⟩
  | _ :: _, _, [], _, hl, _, _ => by simp at hl
theorem Got.app {f1 f2 : List Fd} {c1 c2 : List Value} (h1 : Got w f1 c1) (h2 : Got w f2 c2) : Got w (f1 ++ f2) (c1 ++ c2) := by
  obtain ⟨p1, u1, a1, a2, a3, a4⟩ := h1
  obtain ⟨p2, u2, b1, b2, b3, b4⟩ := h2
  refine ⟨p1 ++ p2, u1 ++ u2, PurR_app a1 b1, LenR_app (PurR_len a1).2 a2 b2, by simp [a3, b3], fun i y hy => ?_⟩
  rcases Nat.lt_or_ge i p1.length with hi | hi
  · rw [List.getElem?_append_left hi] at hy
    obtain ⟨u, hu, hr⟩ := a4 i y hy
    exact ⟨u, by rw [List.getElem?_append_left (by omega)]; exact hu, hr⟩
  · rw [List.getElem?_append_right hi] at hy
    obtain ⟨u, hu, hr⟩ := b4 _ y hy
    exact ⟨u, by rw [List.getElem?_append_right (by omega), ← a3]; exact hu, hr⟩

theorem plain_addr {a : Addr} {v : Value} (h : w.cell? a = some v) : ∃ g o, a = ⟨g, o, none⟩ ∧ g < w.heap.size := by
  obtain ⟨g, o, sp⟩ := a
  unfold World.cell? at h
  have hg : g < w.heap.size := by
    rcases Nat.lt_or_ge g w.heap.size with h1 | h1
    · exact h1
    · rw [Array.getElem?_eq_none h1] at h; cases sp <;> simp at h
  cases sp with
  | none => exact ⟨g, o, rfl, hg⟩
  | some s => simp at h; split at h <;> cases h

/-- A slice out of its elements. -/
theorem got_slice {fs : List Fd} {a : Addr} {len cap : Nat} (hpos : 0 < fs.length) (hl : len ≤ cap) (hm : cap ≤ maxLen) (hx : ∀ i, i < len → ∃ cs', w.cells? base (a.add (i * fs.length)) fs.length = some cs' ∧ Got w fs cs') :
    Got w [.sub fs] [.slice (some a) len cap] := by
  have hx' : ∀ i, i < len → ∃ q : List V × List U × List Value, w.cells? base (a.add (i * fs.length)) fs.length = some q.2.2 ∧ PurR fs q.1 q.2.1 ∧ LenR B63 B63 fs q.2.1 ∧ q.1.length = q.2.2.length ∧ ∀ (j : Nat) (y : V), q.1[j]? = some y → ∃ u, q.2.2[j]? = some u ∧ Rep w (fun b => b < w.heap.size) u y := by
    intro i hi
    obtain ⟨cs', h1, ps, us, h2, h3, h4, h5⟩ := hx i hi
    exact ⟨(ps, us, cs'), h1, h2, h3, h4, h5⟩
  obtain ⟨q, hq⟩ := Go.Deep.choose_lt hx'
  have hzip : ∀ (n : Nat), n ≤ len → Zip2 (PurR fs) ((List.range n).map fun i => (q i).1) ((List.range n).map fun i => (q i).2.1) ∧ AllU (LenR B63 B63 fs) ((List.range n).map fun i => (q i).2.1) := by
    have z2 : ∀ {l1 : List (List V)} {l2 : List (List U)} {c : List V} {x : List U}, Zip2 (PurR fs) l1 l2 → PurR fs c x → Zip2 (PurR fs) (l1 ++ [c]) (l2 ++ [x]) := by
      intro l1
      induction l1 with
      | nil => intro l2 c x h hc; cases l2 with
        | nil => exact ⟨hc, trivial⟩
        | cons b bs => exact h.elim
      | cons a l1 ih => intro l2 c x h hc; cases l2 with
        | nil => exact h.elim
        | cons b bs => exact ⟨h.1, ih h.2 hc⟩
    have a2 : ∀ {l2 : List (List U)} {x : List U}, AllU (LenR B63 B63 fs) l2 → LenR B63 B63 fs x → AllU (LenR B63 B63 fs) (l2 ++ [x]) := by
      intro l2
      induction l2 with
      | nil => intro x _ hx; exact ⟨hx, trivial⟩
      | cons b bs ih => intro x h hx; exact ⟨h.1, ih h.2 hx⟩
    intro n
    induction n with
    | zero => intro _; exact ⟨trivial, trivial⟩
    | succ n ih =>
      intro hn
      obtain ⟨i1, i2⟩ := ih (by omega)
      obtain ⟨_, b1, b2, _⟩ := hq n (by omega)
      rw [List.range_succ, List.map_append, List.map_append]
      exact ⟨z2 i1 b1, a2 i2 b2⟩
  obtain ⟨z1, z2⟩ := hzip len (Nat.le_refl _)
  have hml : maxLen = 9223372036854775807 := by decide
  refine Got.one (p := .sl false fs.length ((List.range len).map fun i => (q i).1)) (u := .sub ((List.range len).map fun i => (q i).2.1)) ?_ ?_ ?_
  · simp only [PurF]
    exact ⟨false, _, _, rfl, rfl, z1⟩
  · simp only [LenF, List.length_map, List.length_range]
    exact ⟨by unfold B63; omega, z2⟩
  · have hlen : ∀ j x, ((List.range len).map fun i => (q i).1)[j]? = some x → j < len ∧ x = (q j).1 := by
      intro j x hx
      rw [List.getElem?_map] at hx
      obtain ⟨k, hk, rfl⟩ := Option.map_eq_some_iff.1 hx
      have hj : j < len := by
        have := (List.getElem?_eq_some_iff.1 hk).1
        simpa using this
      rw [List.getElem?_range hj] at hk
      injection hk with hk
      subst hk
      exact ⟨hj, rfl⟩
    have hcell : ∀ (j c : Nat) (y : V), j < len → (q j).1[c]? = some y → ∃ u, (q j).2.2[c]? = some u ∧ w.cell? ((a.add (j * fs.length)).add c) = some u ∧ Rep w (fun b => b < w.heap.size) u y := by
      intro j c y hj hy
      obtain ⟨h1, h2, h3, h4, h5⟩ := hq j hj
      obtain ⟨_, h6, h7⟩ := World.cells?_some h1
      obtain ⟨u, hu, hr⟩ := h5 c y hy
      have hc : c < fs.length := by
        have := (List.getElem?_eq_some_iff.1 hu).1
        omega
      exact ⟨u, hu, (h7 c hc).trans hu, hr⟩
    refine Rep.sl (some a) len cap false _ fs.length (fun j c => ((q j).2.2[c]?).getD undef) (by simp) hl (fun e => by cases e) hpos (fun x hx => ?_) (fun hn => ?_) (fun j c x y hx hy => ?_)
    · obtain ⟨j, hj⟩ := List.getElem?_of_mem hx
      obtain ⟨h1, rfl⟩ := hlen j x hj
      exact (PurR_len (hq j h1).2.1).1
    · have h0 := (PurR_len (hq 0 hn).2.1).1
      have hy0 : (q 0).1[0]? = some (q 0).1[0] := List.getElem?_eq_getElem (by omega)
      obtain ⟨u0, _, c0, _⟩ := hcell 0 0 _ hn hy0
      rw [Nat.zero_mul] at c0
      have ha : (a.add 0).add 0 = a := by simp [Addr.add]
      rw [ha] at c0
      obtain ⟨g, o, rfl, hg⟩ := plain_addr c0
      refine ⟨g, o, rfl, hg, fun j c x y hx hy => ?_⟩
      obtain ⟨h1, rfl⟩ := hlen j x hx
      obtain ⟨u, hu, hc, _⟩ := hcell j c y h1 hy
      rw [add0, add0] at hc
      rw [hc, hu]
      rfl
    · obtain ⟨h1, rfl⟩ := hlen j x hx
      obtain ⟨u, hu, _, hr⟩ := hcell j c y h1 hy
      show Rep w _ (((q j).2.2[c]?).getD undef) y
      rw [hu]
      exact hr

mutual
theorem gotF : ∀ (n : Nat) {t : TypeId} {f : Fd} {fuel : Nat} {cs : List Value} {x : DataW H × List MemPlace}, tyF P n t f = true → DataW.trod enc P w base spare held fuel t cs = some x → Got w [f] cs
  | 0, _, _, _, _, _, ht, _ => by simp [tyF] at ht
  | n + 1, t, .int k, fuel, cs, x, ht, h => by
    simp only [tyF] at ht
    split at ht
    · rename_i k' hu
      simp only [decide_eq_true_eq] at ht
      subst ht
      obtain ⟨m, rfl, _, _⟩ := DataW.trod_int hu h
      exact Got.one (p := .int k' m) (u := .int m) (by simp only [PurF]; exact ⟨m, rfl, rfl⟩) (by simp [LenF]) (.int _ _)
    · cases ht
  | n + 1, t, .bool, fuel, cs, x, ht, h => by
    simp only [tyF] at ht
    split at ht
    · rename_i hu
      obtain ⟨m, rfl, _⟩ := DataW.trod_bool hu h
      exact Got.one (p := .bool m) (u := .bool m) (by simp only [PurF]; exact ⟨m, rfl, rfl⟩) (by simp [LenF]) (.bool _)
    · cases ht
  | n + 1, t, .str, fuel, cs, x, ht, h => by
    simp only [tyF] at ht
    split at ht
    · rename_i hu
      obtain ⟨m, rfl, _, hm⟩ := DataW.trod_string hu h
      have hml : maxLen = 9223372036854775807 := by decide
      exact Got.one (p := .str m) (u := .str m) (by simp only [PurF]; exact ⟨m, rfl, rfl⟩) (by simp only [LenF]; unfold B63; omega) (.str _)
    · cases ht
  | n + 1, t, .sub fs, fuel, cs, x, ht, h => by
    simp only [tyF] at ht
    split at ht
    · rename_i e hu
      simp only [Bool.and_eq_true, decide_eq_true_eq] at ht
      obtain ⟨⟨hc, hpos⟩, hr⟩ := ht
      rcases Go.Deep.open_slice hu h with ⟨rfl, _⟩ | ⟨a, len, cap, m, k, D, Pl, rfl, hb, hl, hm, hmm, _, hx⟩
      · exact Got.one (p := .sl true fs.length []) (u := .sub []) (by rw [PurF]; exact ⟨true, [], [], rfl, rfl, trivial⟩) (by simp only [LenF]; exact ⟨Nat.zero_le _, trivial⟩) (rep_empty hpos (fun _ => rfl))
      · refine got_slice (base := base) hpos hl hm (fun i hi => ?_)
        obtain ⟨cs', h1, h2⟩ := hx i (by rw [hmm]; split <;> omega)
        rw [hc] at h1
        exact ⟨cs', h1, gotR n hr h2⟩
    · cases ht
theorem gotR : ∀ (n : Nat) {t : TypeId} {fs : List Fd} {fuel : Nat} {cs : List Value} {x : DataW H × List MemPlace}, tyR P n t fs = true → DataW.trod enc P w base spare held fuel t cs = some x → Got w fs cs
  | 0, _, _, _, _, _, ht, _ => by simp [tyR] at ht
  | n + 1, t, fs, fuel, cs, x, ht, h => by
    simp only [tyR] at ht
    split at ht
    · rename_i flds hu
      simp only [Bool.and_eq_true, decide_eq_true_eq] at ht
      obtain ⟨xs, k, _, _, hcl, hxl, hf⟩ := DataW.trod_struct hu h
      refine gotS n (cs := cs) (off := 0) (fuel := k) ht.2 (by omega) (fun i fl hi => ?_)
      have hlt : i < xs.length := by
        have := (List.getElem?_eq_some_iff.1 hi).1
        simp at this
        omega
      rw [Array.getElem?_toList] at hi
      exact ⟨xs[i], by rw [hf i fl hi, List.getElem?_eq_getElem hlt]⟩
    · split at ht
      · rename_i f
        exact gotF n ht h
      · cases ht
theorem gotS : ∀ (n : Nat) {flds : List Field} {off : Nat} {fs : List Fd} {fuel : Nat} {cs : List Value}, tyS P n flds off fs = true → cs.length = off + fs.length → (∀ (i : Nat) (fl : Field), flds[i]? = some fl → ∃ x, DataW.trod enc P w base spare held fuel fl.type ((cs.drop fl.offset).take (P.cellsOf fl.type)) = some x) → Got w fs (cs.drop off)
  | 0, _, _, _, _, _, ht, _, _ => by simp [tyS] at ht
  | n + 1, [], off, fs, fuel, cs, ht, hl, _ => by
    simp only [tyS, List.isEmpty_iff] at ht
    subst ht
    rw [List.drop_of_length_le (by simp at hl; omega)]
    exact ⟨[], [], by simp [PurR], by simp [LenR], rfl, fun i y hy => by simp at hy⟩
  | n + 1, fl :: r, off, fs, fuel, cs, ht, hl, hx => by
    simp only [tyS, Bool.and_eq_true, decide_eq_true_eq] at ht
    obtain ⟨⟨⟨ho, h1⟩, hle⟩, h2⟩ := ht
    obtain ⟨x, hx0⟩ := hx 0 fl rfl
    rw [ho] at hx0
    have g1 := gotR n h1 hx0
    have g2 := gotS n (cs := cs) (off := off + P.cellsOf fl.type) h2 (by rw [List.length_drop]; omega) (fun i f hi => hx (i + 1) f (by simpa using hi))
    have g := g1.app g2
    rw [List.take_append_drop] at g
    rw [← List.drop_drop, List.take_append_drop] at g
    exact g
end
/-- An argument of a slice's type. -/
theorem got_arg {t : TypeId} {fs : List Fd} {v : Value} {d : DataW H} {ps : List MemPlace} (n : Nat) (ht : tyF P n t (.sub fs) = true) (h : DataW.Trod enc P w base spare held t v d ps) (hv : v.cells = #[v]) :
    ∃ p xs, Rep w (fun b => b < w.heap.size) v p ∧ PurF (.sub fs) p (.sub xs) ∧ LenF B63 B63 (.sub fs) (.sub xs) := by
  obtain ⟨fuel, h⟩ := h
  obtain ⟨ps, us, h1, h2, h3, h4⟩ := gotF n ht h
  simp only [PurR] at h1
  obtain ⟨p, _, u, _, rfl, rfl, g, rfl, rfl⟩ := h1
  simp only [LenR] at h2
  obtain ⟨u', hu, hr⟩ := h4 0 p rfl
  rw [hv] at hu
  simp at hu
  subst hu
  have g' := g
  simp only [PurF] at g'
  obtain ⟨_, _, xs, _, rfl, _⟩ := g'
  exact ⟨p, xs, hr, g, h2.1⟩
end
end Go.Proofs.Ytnnjpiepoeknnaa.PE
