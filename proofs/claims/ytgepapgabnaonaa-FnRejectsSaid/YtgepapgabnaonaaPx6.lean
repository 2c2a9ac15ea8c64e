/- The value of an expression, the program's. -/
import Derived.Test.YtgepapgabnaonaaPx5
set_option linter.unusedSimpArgs false
set_option linter.unusedVariables false
set_option maxHeartbeats 4000000
namespace Go.Proofs.Ytgepapgabnaonaa.PE
open Go.RowKit

-- find74
theorem run_exprV (d : Nat) (c c' : Bool) (row : List Val) (ps : List Prt) (v : Val) (l : List Val) (hp : ps.length ≤ 1000) (h : runStp (evS row) [] ps = some (v :: l)) : retP (runD tab noExt (d + 7)) 74 [.sl c 3 (row.map Val.cells), .sl c' 5 (ps.map Prt.cells)] = some [.agg (Val.cells v)] := by
  rw [retP, runD_eq find74 _ _ _ (by simp)]
  obtain ⟨stm', hl⟩ := loop_exprV d c c' row ps hp ps 0 rfl (Nat.zero_le _) 1099511627775 0 [] (v :: l) (by omega) (Nat.zero_le _) h
  simp only [List.length_nil, List.map_nil, Int.natCast_zero] at hl
  have h0 : (0 : Nat) < (v :: l).length := by simp
  simp -implicitDefEqProofs (disch := omega) only [go_sem, Nat.sub_zero, List.drop_zero, eq_self, Option.getD_none, Option.getD_some, Option.isSome_none, Option.isSome_some, Option.isNone_none, Option.isNone_some, Bool.or_false, Bool.false_or, Bool.and_false, Bool.false_and, Int.le_refl, Nat.le_refl, List.length_map, List.getElem?_map, Int.natCast_add, Int.natCast_one, List.append_assoc, List.length_append, Nat.add_assoc, and_self, and_true, true_and, and_false, false_and, or_true, true_or, or_false, false_or, not_true_eq_false, not_false_eq_true, Int.cast_ofNat_Int, Int.natCast_nonneg, Int.toNat_natCast, ne_eq, not_true_eq_false, not_false_eq_true, Nat.reduceBEq, Nat.reduceAdd, Nat.reduceSub, Nat.reduceMul, Nat.reduceLeDiff, Nat.reduceEqDiff, Nat.reduceLT, Int.reduceNeg, Int.reduceAdd, Int.reduceSub, Int.reduceMul, Int.reduceLE, Int.reduceLT, Int.reduceEq, Int.reduceToNat, reduceCtorEq]
  rw [hl]
  simp -implicitDefEqProofs (disch := omega) only [go_sem, Nat.sub_zero, List.drop_zero, eq_self, Option.getD_none, Option.getD_some, Option.isSome_none, Option.isSome_some, Option.isNone_none, Option.isNone_some, Bool.or_false, Bool.false_or, Bool.and_false, Bool.false_and, Int.le_refl, Nat.le_refl, List.length_map, List.getElem?_map, Int.natCast_add, Int.natCast_one, List.append_assoc, List.length_append, Nat.add_assoc, and_self, and_true, true_and, and_false, false_and, or_true, true_or, or_false, false_or, not_true_eq_false, not_false_eq_true, Int.cast_ofNat_Int, Int.natCast_nonneg, Int.toNat_natCast, ne_eq, not_true_eq_false, not_false_eq_true, Nat.reduceBEq, Nat.reduceAdd, Nat.reduceSub, Nat.reduceMul, Nat.reduceLeDiff, Nat.reduceEqDiff, Nat.reduceLT, Int.reduceNeg, Int.reduceAdd, Int.reduceSub, Int.reduceMul, Int.reduceLE, Int.reduceLT, Int.reduceEq, Int.reduceToNat, reduceCtorEq, Int.toNat_zero, Val.cells, Nat.zero_lt_succ]

/-- Kinds that can be put down are values that can be. -/
theorem evS_of {cs : List Col} {row : List Val} (hrow : row.length = cs.length) {p : Prt} {ks ks' : List Int} {st : List Val} (hl : st.length = ks.length) (h : stpI cs ks p = some ks') : ∃ st', evS row st p = some st' ∧ st'.length = ks'.length := by
  unfold stpI at h
  split at h
  · rename_i ht
    split at h
    · cases h
    · rename_i hle
      split at h
      · injection h with h
        have hlen := congrArg List.length h
        simp only [List.length_append, List.length_take, List.length_singleton] at hlen
        have hin := takes_in p
        by_cases hk2 : p.kind = 3 ∨ p.kind = 4 ∨ p.kind = 5 ∨ p.kind = 6
        · have htk : p.takes = 2 := by unfold Prt.takes; rcases hk2 with hk | hk | hk | hk <;> simp [hk]
          rw [htk] at hle hlen
          have : 2 ≤ st.length := by omega
          refine ⟨_, by unfold evS; rw [if_pos hk2, if_pos this], ?_⟩
          simp
          simp at hlen
          omega
        · by_cases hk1 : p.kind = 7 ∨ p.kind = 8
          · have htk : p.takes = 1 := by unfold Prt.takes; rcases hk1 with hk | hk <;> simp [hk]
            rw [htk] at hle hlen
            have : 1 ≤ st.length := by omega
            refine ⟨_, by unfold evS; rw [if_neg hk2, if_pos hk1, if_pos this], ?_⟩
            simp
            simp at hlen
            omega
          · have htk : p.takes = 0 := by unfold Prt.takes; grind
            rw [htk] at hle hlen
            have hk0 : p.kind = 1 ∨ p.kind = 2 ∧ 0 ≤ p.n ∧ p.n < row.length := by
              by_cases k1 : p.kind = 1
              · exact .inl k1
              · by_cases k2 : p.kind = 2
                · obtain ⟨g1, g2⟩ := tells_col ht k2
                  exact .inr ⟨k2, g1, by omega⟩
                · exfalso
                  unfold Prt.tells at ht
                  grind
            refine ⟨_, by unfold evS; rw [if_neg hk2, if_neg hk1, if_pos hk0], ?_⟩
            simp
            simp at hlen
            omega
      · cases h
  · cases h
theorem run_evS {cs : List Col} {row : List Val} (hrow : row.length = cs.length) : ∀ {ps : List Prt} {ks ks' : List Int} {st : List Val}, st.length = ks.length → runStp (stpI cs) ks ps = some ks' → ∃ st', runStp (evS row) st ps = some st' ∧ st'.length = ks'.length
  | [], ks, ks', st, hl, h => by
    simp only [runStp, Option.some.injEq] at h
    subst h
    exact ⟨st, rfl, hl⟩
  | p :: ps, ks, ks', st, hl, h => by
    simp only [runStp] at h
    split at h
    · rename_i k1 hk
      obtain ⟨s1, h1, h2⟩ := evS_of hrow hl hk
      obtain ⟨s2, h3, h4⟩ := run_evS hrow h2 h
      exact ⟨s2, by simp only [runStp, h1]; exact h3, h4⟩
    · cases h
def evExpr (row : List Val) (ps : List Prt) : Val := match runStp (evS row) [] ps with
  | some (v :: _) => v
  | _ => Val.zero
def exprVal (cs : List Col) (row : List Val) (ps : List Prt) : Val := if exprKind cs ps < 0 then Val.zero else if fitsRow cs row then evExpr row ps else Val.zero
theorem exprKind_spec {cs : List Col} {ps : List Prt} (h : ¬ exprKind cs ps < 0) : colsOk cs = true ∧ ps.length ≤ 12 ∧ ∃ k, runStp (stpI cs) [] ps = some [k] ∧ exprKind cs ps = k := by
  unfold exprKind at h ⊢
  split at h
  · rename_i h1
    split at h
    · simp at h
    · rename_i h2
      split at h
      · rename_i k hk
        refine ⟨h1, by omega, k, hk, ?_⟩
        simp [h1, h2, hk]
      · simp at h
  · simp at h
theorem fits_eq {cs : List Col} {row : List Val} (h : fitsRow cs row = true) : row.length = cs.length := by
  simp only [fitsRow, Bool.and_eq_true, decide_eq_true_eq] at h
  exact h.1.2
-- find21
theorem run_exprValueI (d : Nat) (c c' c2 : Bool) (cs : List Col) (row : List Val) (ps : List Prt) (hc : cs.length < 1099511627776) (hs : row.length < 1099511627776) :
    retP (runD tab noExt (d + 9)) 21 [.sl c 2 (cs.map Col.cells), .sl c2 3 (row.map Val.cells), .sl c' 5 (ps.map Prt.cells)] = some [.agg (Val.cells (exprVal cs row ps))] := by
  rw [retP, runD_eq find21 _ _ _ (by simp)]
  by_cases h1 : exprKind cs ps < 0
  · simp -implicitDefEqProofs (disch := first | omega | assumption) only [go_sem, Nat.sub_zero, List.drop_zero, eq_self, Option.getD_none, Option.getD_some, Option.isSome_none, Option.isSome_some, Option.isNone_none, Option.isNone_some, Bool.or_false, Bool.false_or, Bool.and_false, Bool.false_and, Int.le_refl, Nat.le_refl, List.length_map, List.getElem?_map, Int.natCast_add, Int.natCast_one, List.append_assoc, List.length_append, Nat.add_assoc, and_self, and_true, true_and, and_false, false_and, or_true, true_or, or_false, false_or, not_true_eq_false, not_false_eq_true, Int.cast_ofNat_Int, Int.natCast_nonneg, Int.toNat_natCast, ne_eq, not_true_eq_false, not_false_eq_true, Nat.reduceBEq, Nat.reduceAdd, Nat.reduceSub, Nat.reduceMul, Nat.reduceLeDiff, Nat.reduceEqDiff, Nat.reduceLT, Int.reduceNeg, Int.reduceAdd, Int.reduceSub, Int.reduceMul, Int.reduceLE, Int.reduceLT, Int.reduceEq, Int.reduceToNat, reduceCtorEq, run_exprKindI, h1]
    simp [exprVal, h1, Val.cells, Val.zero]
  · by_cases h2 : fitsRow cs row = true
    · obtain ⟨g1, g2, k, g3, g4⟩ := exprKind_spec h1
      obtain ⟨st, g5, g6⟩ := run_evS (row := row) (fits_eq h2) (st := []) rfl g3
      match st, g5, g6 with
      | v :: l, g5, g6 =>
        have hv := run_exprV (d + 1) c2 c' row ps v l (by omega) g5
        simp -implicitDefEqProofs (disch := first | omega | assumption) only [go_sem, Nat.sub_zero, List.drop_zero, eq_self, Option.getD_none, Option.getD_some, Option.isSome_none, Option.isSome_some, Option.isNone_none, Option.isNone_some, Bool.or_false, Bool.false_or, Bool.and_false, Bool.false_and, Int.le_refl, Nat.le_refl, List.length_map, List.getElem?_map, Int.natCast_add, Int.natCast_one, List.append_assoc, List.length_append, Nat.add_assoc, and_self, and_true, true_and, and_false, false_and, or_true, true_or, or_false, false_or, not_true_eq_false, not_false_eq_true, Int.cast_ofNat_Int, Int.natCast_nonneg, Int.toNat_natCast, ne_eq, not_true_eq_false, not_false_eq_true, Nat.reduceBEq, Nat.reduceAdd, Nat.reduceSub, Nat.reduceMul, Nat.reduceLeDiff, Nat.reduceEqDiff, Nat.reduceLT, Int.reduceNeg, Int.reduceAdd, Int.reduceSub, Int.reduceMul, Int.reduceLE, Int.reduceLT, Int.reduceEq, Int.reduceToNat, reduceCtorEq, run_exprKindI, run_fitsI, h1, h2, hv, Val.cells]
        simp [exprVal, h1, h2, evExpr, g5]
    · simp -implicitDefEqProofs (disch := first | omega | assumption) only [go_sem, Nat.sub_zero, List.drop_zero, eq_self, Option.getD_none, Option.getD_some, Option.isSome_none, Option.isSome_some, Option.isNone_none, Option.isNone_some, Bool.or_false, Bool.false_or, Bool.and_false, Bool.false_and, Int.le_refl, Nat.le_refl, List.length_map, List.getElem?_map, Int.natCast_add, Int.natCast_one, List.append_assoc, List.length_append, Nat.add_assoc, and_self, and_true, true_and, and_false, false_and, or_true, true_or, or_false, false_or, not_true_eq_false, not_false_eq_true, Int.cast_ofNat_Int, Int.natCast_nonneg, Int.toNat_natCast, ne_eq, not_true_eq_false, not_false_eq_true, Nat.reduceBEq, Nat.reduceAdd, Nat.reduceSub, Nat.reduceMul, Nat.reduceLeDiff, Nat.reduceEqDiff, Nat.reduceLT, Int.reduceNeg, Int.reduceAdd, Int.reduceSub, Int.reduceMul, Int.reduceLE, Int.reduceLT, Int.reduceEq, Int.reduceToNat, reduceCtorEq, run_exprKindI, run_fitsI, h1, h2]
      simp [exprVal, h1, h2, Val.cells, Val.zero]
end Go.Proofs.Ytgepapgabnaonaa.PE
