/- What a part puts down, the program's. -/
import Derived.Test.YtgepapgabnaonaaPx2
import Derived.Test.YtgepapgabnaonaaPwc
set_option linter.unusedSimpArgs false
set_option linter.unusedVariables false
set_option maxHeartbeats 4000000
namespace Go.Proofs.Ytgepapgabnaonaa.PE
open Go.RowKit

def addV (a b : Val) : Val := if a.kind = 0 then Val.zero else if b.kind = 0 then Val.zero else if Val.ok ⟨1, IntKind.i64.wrap (a.n + b.n), ⟨#[]⟩⟩ then ⟨1, IntKind.i64.wrap (a.n + b.n), ⟨#[]⟩⟩ else Val.zero
def val2 (k n : Int) (a b : Val) : Val := if k = 3 then addV a b else if k = 4 then valT (cmpV n a b) else if k = 5 then valT (foldT (truthV a) (truthV b) 0) else valT (foldT (truthV a) (truthV b) 1)
def val1 (k : Int) (a : Val) : Val := if k = 7 then valT (notT (truthV a)) else valT (if a.kind = 0 then 1 else 0)
def val0 (k n : Int) (v : Val) (row : List Val) : Val := if k = 1 then v else row.getD n.toNat Val.zero

-- find129
theorem run_val2 (d : Nat) (py pz : Int) (pvk pvn : Int) (pvq : ByteArray) (c c' : Bool) (row : List (List V)) (a b : Val) (h : py = 3 ∨ py = 4 ∨ py = 5 ∨ py = 6) :
    retP (runD tab noExt (d + 6)) 129 [.agg [.int .i64 py, .int .i64 pz, .int .i64 pvk, .int .i64 pvn, .str pvq], .sl c 3 row, .sl c' 3 [Val.cells a, Val.cells b]] = some [.agg (Val.cells (val2 py pz a b))] := by
  rw [retP, runD_eq find129 _ _ _ (by simp)]
  rcases h with rfl | rfl | rfl | rfl
  · simp -implicitDefEqProofs (disch := omega) only [go_sem, Nat.sub_zero, List.drop_zero, eq_self, Option.getD_none, Option.getD_some, Option.isSome_none, Option.isSome_some, Option.isNone_none, Option.isNone_some, Bool.or_false, Bool.false_or, Bool.and_false, Bool.false_and, Int.le_refl, Nat.le_refl, List.length_map, List.getElem?_map, Int.natCast_add, Int.natCast_one, List.append_assoc, List.length_append, Nat.add_assoc, and_self, and_true, true_and, and_false, false_and, or_true, true_or, or_false, false_or, not_true_eq_false, not_false_eq_true, Int.cast_ofNat_Int, Int.natCast_nonneg, Int.toNat_natCast, ne_eq, not_true_eq_false, not_false_eq_true, Nat.reduceBEq, Nat.reduceAdd, Nat.reduceSub, Nat.reduceMul, Nat.reduceLeDiff, Nat.reduceEqDiff, Nat.reduceLT, Int.reduceNeg, Int.reduceAdd, Int.reduceSub, Int.reduceMul, Int.reduceLE, Int.reduceLT, Int.reduceEq, Int.reduceToNat, reduceCtorEq, evC_draw, evD129x0, E129x0, Val.cells, Int.toNat_zero, Int.toNat_one, run_ok, List.getLast?_cons_cons]
    repeat' ((first | rw [GuardI_ndec] | rw [CondC_ndec] | rw [GuardQ_ndec] | rw [GuardI_dec] | rw [CondC_dec] | rw [GuardQ_dec] | rw [GuardI_nby] | rw [CondC_nby] | rw [GuardQ_nby] | rw [GuardQ_by] | rw [GuardI_by] | rw [CondC_by]) <;> split <;> simp -implicitDefEqProofs (disch := omega) only [go_sem, Nat.sub_zero, List.drop_zero, eq_self, Option.getD_none, Option.getD_some, Option.isSome_none, Option.isSome_some, Option.isNone_none, Option.isNone_some, Bool.or_false, Bool.false_or, Bool.and_false, Bool.false_and, Int.le_refl, Nat.le_refl, List.length_map, List.getElem?_map, Int.natCast_add, Int.natCast_one, List.append_assoc, List.length_append, Nat.add_assoc, and_self, and_true, true_and, and_false, false_and, or_true, true_or, or_false, false_or, not_true_eq_false, not_false_eq_true, Int.cast_ofNat_Int, Int.natCast_nonneg, Int.toNat_natCast, ne_eq, not_true_eq_false, not_false_eq_true, Nat.reduceBEq, Nat.reduceAdd, Nat.reduceSub, Nat.reduceMul, Nat.reduceLeDiff, Nat.reduceEqDiff, Nat.reduceLT, Int.reduceNeg, Int.reduceAdd, Int.reduceSub, Int.reduceMul, Int.reduceLE, Int.reduceLT, Int.reduceEq, Int.reduceToNat, reduceCtorEq, run_ok, Val.cells, *])
    all_goals (simp_all [val2, addV, Val.zero, Val.cells])
  · simp -implicitDefEqProofs (disch := omega) only [go_sem, Nat.sub_zero, List.drop_zero, eq_self, Option.getD_none, Option.getD_some, Option.isSome_none, Option.isSome_some, Option.isNone_none, Option.isNone_some, Bool.or_false, Bool.false_or, Bool.and_false, Bool.false_and, Int.le_refl, Nat.le_refl, List.length_map, List.getElem?_map, Int.natCast_add, Int.natCast_one, List.append_assoc, List.length_append, Nat.add_assoc, and_self, and_true, true_and, and_false, false_and, or_true, true_or, or_false, false_or, not_true_eq_false, not_false_eq_true, Int.cast_ofNat_Int, Int.natCast_nonneg, Int.toNat_natCast, ne_eq, not_true_eq_false, not_false_eq_true, Nat.reduceBEq, Nat.reduceAdd, Nat.reduceSub, Nat.reduceMul, Nat.reduceLeDiff, Nat.reduceEqDiff, Nat.reduceLT, Int.reduceNeg, Int.reduceAdd, Int.reduceSub, Int.reduceMul, Int.reduceLE, Int.reduceLT, Int.reduceEq, Int.reduceToNat, reduceCtorEq, evC_draw, evD129x1, E129x1, Val.cells, Int.toNat_zero, Int.toNat_one, run_CompareI, Val.eta, run_ValueOf]
    simp [val2]
  · simp -implicitDefEqProofs (disch := omega) only [go_sem, Nat.sub_zero, List.drop_zero, eq_self, Option.getD_none, Option.getD_some, Option.isSome_none, Option.isSome_some, Option.isNone_none, Option.isNone_some, Bool.or_false, Bool.false_or, Bool.and_false, Bool.false_and, Int.le_refl, Nat.le_refl, List.length_map, List.getElem?_map, Int.natCast_add, Int.natCast_one, List.append_assoc, List.length_append, Nat.add_assoc, and_self, and_true, true_and, and_false, false_and, or_true, true_or, or_false, false_or, not_true_eq_false, not_false_eq_true, Int.cast_ofNat_Int, Int.natCast_nonneg, Int.toNat_natCast, ne_eq, not_true_eq_false, not_false_eq_true, Nat.reduceBEq, Nat.reduceAdd, Nat.reduceSub, Nat.reduceMul, Nat.reduceLeDiff, Nat.reduceEqDiff, Nat.reduceLT, Int.reduceNeg, Int.reduceAdd, Int.reduceSub, Int.reduceMul, Int.reduceLE, Int.reduceLT, Int.reduceEq, Int.reduceToNat, reduceCtorEq, evC_draw, evD129x2, E129x2, Val.cells, Int.toNat_zero, Int.toNat_one, run_TruthOf, run_AndOf, Val.eta, run_ValueOf]
    simp [val2]
  · simp -implicitDefEqProofs (disch := omega) only [go_sem, Nat.sub_zero, List.drop_zero, eq_self, Option.getD_none, Option.getD_some, Option.isSome_none, Option.isSome_some, Option.isNone_none, Option.isNone_some, Bool.or_false, Bool.false_or, Bool.and_false, Bool.false_and, Int.le_refl, Nat.le_refl, List.length_map, List.getElem?_map, Int.natCast_add, Int.natCast_one, List.append_assoc, List.length_append, Nat.add_assoc, and_self, and_true, true_and, and_false, false_and, or_true, true_or, or_false, false_or, not_true_eq_false, not_false_eq_true, Int.cast_ofNat_Int, Int.natCast_nonneg, Int.toNat_natCast, ne_eq, not_true_eq_false, not_false_eq_true, Nat.reduceBEq, Nat.reduceAdd, Nat.reduceSub, Nat.reduceMul, Nat.reduceLeDiff, Nat.reduceEqDiff, Nat.reduceLT, Int.reduceNeg, Int.reduceAdd, Int.reduceSub, Int.reduceMul, Int.reduceLE, Int.reduceLT, Int.reduceEq, Int.reduceToNat, reduceCtorEq, evC_draw, evD129x3, E129x3, Val.cells, Int.toNat_zero, Int.toNat_one, run_TruthOf, run_OrOf, Val.eta, run_ValueOf]
    simp [val2]
theorem run_val1 (d : Nat) (py pz : Int) (pvk pvn : Int) (pvq : ByteArray) (c c' : Bool) (row : List (List V)) (a : Val) (h : py = 7 ∨ py = 8) :
    retP (runD tab noExt (d + 6)) 129 [.agg [.int .i64 py, .int .i64 pz, .int .i64 pvk, .int .i64 pvn, .str pvq], .sl c 3 row, .sl c' 3 [Val.cells a]] = some [.agg (Val.cells (val1 py a))] := by
  rw [retP, runD_eq find129 _ _ _ (by simp)]
  rcases h with rfl | rfl
  · simp -implicitDefEqProofs (disch := omega) only [go_sem, Nat.sub_zero, List.drop_zero, eq_self, Option.getD_none, Option.getD_some, Option.isSome_none, Option.isSome_some, Option.isNone_none, Option.isNone_some, Bool.or_false, Bool.false_or, Bool.and_false, Bool.false_and, Int.le_refl, Nat.le_refl, List.length_map, List.getElem?_map, Int.natCast_add, Int.natCast_one, List.append_assoc, List.length_append, Nat.add_assoc, and_self, and_true, true_and, and_false, false_and, or_true, true_or, or_false, false_or, not_true_eq_false, not_false_eq_true, Int.cast_ofNat_Int, Int.natCast_nonneg, Int.toNat_natCast, ne_eq, not_true_eq_false, not_false_eq_true, Nat.reduceBEq, Nat.reduceAdd, Nat.reduceSub, Nat.reduceMul, Nat.reduceLeDiff, Nat.reduceEqDiff, Nat.reduceLT, Int.reduceNeg, Int.reduceAdd, Int.reduceSub, Int.reduceMul, Int.reduceLE, Int.reduceLT, Int.reduceEq, Int.reduceToNat, reduceCtorEq, Val.cells, Int.toNat_zero, run_TruthOf, run_NotOf, Val.eta, run_ValueOf]
    simp [val1]
  · simp -implicitDefEqProofs (disch := omega) only [go_sem, Nat.sub_zero, List.drop_zero, eq_self, Option.getD_none, Option.getD_some, Option.isSome_none, Option.isSome_some, Option.isNone_none, Option.isNone_some, Bool.or_false, Bool.false_or, Bool.and_false, Bool.false_and, Int.le_refl, Nat.le_refl, List.length_map, List.getElem?_map, Int.natCast_add, Int.natCast_one, List.append_assoc, List.length_append, Nat.add_assoc, and_self, and_true, true_and, and_false, false_and, or_true, true_or, or_false, false_or, not_true_eq_false, not_false_eq_true, Int.cast_ofNat_Int, Int.natCast_nonneg, Int.toNat_natCast, ne_eq, not_true_eq_false, not_false_eq_true, Nat.reduceBEq, Nat.reduceAdd, Nat.reduceSub, Nat.reduceMul, Nat.reduceLeDiff, Nat.reduceEqDiff, Nat.reduceLT, Int.reduceNeg, Int.reduceAdd, Int.reduceSub, Int.reduceMul, Int.reduceLE, Int.reduceLT, Int.reduceEq, Int.reduceToNat, reduceCtorEq, Val.cells, Int.toNat_zero, run_truthIf, Val.eta, run_ValueOf]
    simp [val1]
theorem run_val0 (d : Nat) (py pz : Int) (pvk pvn : Int) (pvq : ByteArray) (c c' : Bool) (row : List Val) (ins : List (List V)) (h : py = 1 ∨ py = 2 ∧ 0 ≤ pz ∧ pz < row.length) :
    retP (runD tab noExt (d + 6)) 129 [.agg [.int .i64 py, .int .i64 pz, .int .i64 pvk, .int .i64 pvn, .str pvq], .sl c 3 (row.map Val.cells), .sl c' 3 ins] = some [.agg (Val.cells (val0 py pz (⟨pvk, pvn, pvq⟩ : Val) row))] := by
  rw [retP, runD_eq find129 _ _ _ (by simp)]
  rcases h with rfl | ⟨rfl, h1, h2⟩
  · simp -implicitDefEqProofs (disch := omega) only [go_sem, Nat.sub_zero, List.drop_zero, eq_self, Option.getD_none, Option.getD_some, Option.isSome_none, Option.isSome_some, Option.isNone_none, Option.isNone_some, Bool.or_false, Bool.false_or, Bool.and_false, Bool.false_and, Int.le_refl, Nat.le_refl, List.length_map, List.getElem?_map, Int.natCast_add, Int.natCast_one, List.append_assoc, List.length_append, Nat.add_assoc, and_self, and_true, true_and, and_false, false_and, or_true, true_or, or_false, false_or, not_true_eq_false, not_false_eq_true, Int.cast_ofNat_Int, Int.natCast_nonneg, Int.toNat_natCast, ne_eq, not_true_eq_false, not_false_eq_true, Nat.reduceBEq, Nat.reduceAdd, Nat.reduceSub, Nat.reduceMul, Nat.reduceLeDiff, Nat.reduceEqDiff, Nat.reduceLT, Int.reduceNeg, Int.reduceAdd, Int.reduceSub, Int.reduceMul, Int.reduceLE, Int.reduceLT, Int.reduceEq, Int.reduceToNat, reduceCtorEq]
    simp [val0, Val.cells]
  · have hat : row[pz.toNat]? = some (row.getD pz.toNat Val.zero) := at_getD _ (by omega)
    simp -implicitDefEqProofs (disch := omega) only [go_sem, Nat.sub_zero, List.drop_zero, eq_self, Option.getD_none, Option.getD_some, Option.isSome_none, Option.isSome_some, Option.isNone_none, Option.isNone_some, Bool.or_false, Bool.false_or, Bool.and_false, Bool.false_and, Int.le_refl, Nat.le_refl, List.length_map, List.getElem?_map, Int.natCast_add, Int.natCast_one, List.append_assoc, List.length_append, Nat.add_assoc, and_self, and_true, true_and, and_false, false_and, or_true, true_or, or_false, false_or, not_true_eq_false, not_false_eq_true, Int.cast_ofNat_Int, Int.natCast_nonneg, Int.toNat_natCast, ne_eq, not_true_eq_false, not_false_eq_true, Nat.reduceBEq, Nat.reduceAdd, Nat.reduceSub, Nat.reduceMul, Nat.reduceLeDiff, Nat.reduceEqDiff, Nat.reduceLT, Int.reduceNeg, Int.reduceAdd, Int.reduceSub, Int.reduceMul, Int.reduceLE, Int.reduceLT, Int.reduceEq, Int.reduceToNat, reduceCtorEq, hat, h1, Val.cells]
    simp [val0]

theorem takes_in' (p : Prt) : 0 ≤ p.takes ∧ p.takes ≤ 2 := by
  unfold Prt.takes
  repeat' split
  all_goals omega
/-- What stands behind a part, of values. -/
def evS (row : List Val) (st : List Val) (p : Prt) : Option (List Val) :=
  if p.kind = 3 ∨ p.kind = 4 ∨ p.kind = 5 ∨ p.kind = 6 then (if 2 ≤ st.length then some (st.take (st.length - 2) ++ [val2 p.kind p.n (st.getD (st.length - 2) Val.zero) (st.getD (st.length - 1) Val.zero)]) else none)
  else if p.kind = 7 ∨ p.kind = 8 then (if 1 ≤ st.length then some (st.take (st.length - 1) ++ [val1 p.kind (st.getD (st.length - 1) Val.zero)]) else none)
  else if p.kind = 1 ∨ p.kind = 2 ∧ 0 ≤ p.n ∧ p.n < row.length then some (st ++ [val0 p.kind p.n p.v row]) else none
theorem drop_two {α : Type} (l : List α) (z : α) (h : 2 ≤ l.length) : l.drop (l.length - 2) = [l.getD (l.length - 2) z, l.getD (l.length - 1) z] := by
  rw [List.drop_eq_getElem_cons (by omega), show l.length - 2 + 1 = l.length - 1 by omega, List.drop_eq_getElem_cons (by omega), show l.length - 1 + 1 = l.length by omega, List.drop_length]
  simp [List.getD_eq_getElem?_getD, List.getElem?_eq_getElem (show l.length - 2 < l.length by omega), List.getElem?_eq_getElem (show l.length - 1 < l.length by omega)]
theorem drop_one {α : Type} (l : List α) (z : α) (h : 1 ≤ l.length) : l.drop (l.length - 1) = [l.getD (l.length - 1) z] := by
  rw [List.drop_eq_getElem_cons (by omega), show l.length - 1 + 1 = l.length by omega, List.drop_length]
  simp [List.getD_eq_getElem?_getD, List.getElem?_eq_getElem (show l.length - 1 < l.length by omega)]
/-- One part on a stack. -/
theorem run_valS (d : Nat) (c : Bool) (row : List Val) (st l : List Val) (p : Prt) (h : evS row st p = some l) :
    p.takes.toNat ≤ st.length ∧ ∃ v, l = st.take (st.length - p.takes.toNat) ++ [v] ∧
      retP (runD tab noExt (d + 6)) 129 [.agg [.int .i64 p.kind, .int .i64 p.n, .int .i64 p.v.kind, .int .i64 p.v.n, .str p.v.s], .sl c 3 (row.map Val.cells), .sl false 3 ((st.map Val.cells).drop (st.length - p.takes.toNat))] = some [.agg (Val.cells v)] := by
  unfold evS at h
  split at h
  · rename_i hk
    split at h
    · rename_i hl
      injection h with h
      have ht : p.takes = 2 := by unfold Prt.takes; rcases hk with hk | hk | hk | hk <;> simp [hk]
      rw [ht]
      refine ⟨hl, _, h.symm, ?_⟩
      rw [← List.map_drop, show st.length - (2 : Int).toNat = st.length - 2 from rfl, drop_two st Val.zero hl]
      exact run_val2 d p.kind p.n p.v.kind p.v.n p.v.s c false _ _ _ hk
    · cases h
  · split at h
    · rename_i hk
      split at h
      · rename_i hl
        injection h with h
        have ht : p.takes = 1 := by unfold Prt.takes; rcases hk with hk | hk <;> simp [hk]
        rw [ht]
        refine ⟨hl, _, h.symm, ?_⟩
        rw [← List.map_drop, show st.length - (1 : Int).toNat = st.length - 1 from rfl, drop_one st Val.zero hl]
        exact run_val1 d p.kind p.n p.v.kind p.v.n p.v.s c false _ _ hk
      · cases h
    · split at h
      · rename_i hk
        injection h with h
        have ht : p.takes = 0 := by unfold Prt.takes; rcases hk with hk | ⟨hk, _⟩ <;> simp [hk]
        rw [ht]
        refine ⟨Nat.zero_le _, val0 p.kind p.n p.v row, ?_, run_val0 d p.kind p.n p.v.kind p.v.n p.v.s c false row _ hk⟩
        rw [← h]
        simp
      · cases h

theorem loop_exprV (d : Nat) (c c' : Bool) (row : List Val) (ps : List Prt) (hp : ps.length ≤ 1000) : ∀ (rest : List Prt) (i : Nat), ps.drop i = rest → i ≤ ps.length → ∀ (K stm : Nat) (st l : List Val), rest.length ≤ K → st.length ≤ i → runStp (evS row) st rest = some l →
    ∃ stm', LoopS (runD tab noExt (d + 6)) (drawI (runD tab noExt (d + 6))) [0, 4, 5, 10, 11, 12] [4, 5] L74x0 2 K [(0, .sl c 3 (row.map Val.cells)), (4, .ptr 0 0 0 0), (5, .ref 1 stm 0 st.length false), (10, .sl c' 5 (ps.map Prt.cells)), (11, .int .i64 (ps.length : Int)), (12, .int .i64 (i : Int))] [.box [.int .i64 0, .int .i64 0, .str ⟨#[]⟩], .rows stm 3 (st.map Val.cells)] =
      (some (.exit 0, [(4, .ptr 0 0 0 0), (5, .ref 1 stm' 0 l.length false)], [.box [.int .i64 0, .int .i64 0, .str ⟨#[]⟩], .rows stm' 3 (l.map Val.cells)]) : Out) := by
  refine drop_to ps (fun i rest => ∀ (K stm : Nat) (st l : List Val), rest.length ≤ K → st.length ≤ i → runStp (evS row) st rest = some l →
    ∃ stm', LoopS (runD tab noExt (d + 6)) (drawI (runD tab noExt (d + 6))) [0, 4, 5, 10, 11, 12] [4, 5] L74x0 2 K [(0, .sl c 3 (row.map Val.cells)), (4, .ptr 0 0 0 0), (5, .ref 1 stm 0 st.length false), (10, .sl c' 5 (ps.map Prt.cells)), (11, .int .i64 (ps.length : Int)), (12, .int .i64 (i : Int))] [.box [.int .i64 0, .int .i64 0, .str ⟨#[]⟩], .rows stm 3 (st.map Val.cells)] =
      (some (.exit 0, [(4, .ptr 0 0 0 0), (5, .ref 1 stm' 0 l.length false)], [.box [.int .i64 0, .int .i64 0, .str ⟨#[]⟩], .rows stm' 3 (l.map Val.cells)]) : Out)) ?_ ?_
  · intro K stm st l hK hst hr
    simp only [runStp, Option.some.injEq] at hr
    subst hr
    rw [LoopS_eq]
    simp -implicitDefEqProofs only [go_sem, Nat.sub_zero, List.drop_zero, eq_self, Option.getD_none, Option.getD_some, Option.isSome_none, Option.isSome_some, Option.isNone_none, Option.isNone_some, Bool.or_false, Bool.false_or, Bool.and_false, Bool.false_and, Int.le_refl, Nat.le_refl, List.length_map, List.getElem?_map, Int.natCast_add, Int.natCast_one, List.append_assoc, List.length_append, Nat.add_assoc, and_self, and_true, true_and, and_false, false_and, or_true, true_or, or_false, false_or, not_true_eq_false, not_false_eq_true, Int.cast_ofNat_Int, Int.natCast_nonneg, Int.toNat_natCast, ne_eq, not_true_eq_false, not_false_eq_true, Nat.reduceBEq, Nat.reduceAdd, Nat.reduceSub, Nat.reduceMul, Nat.reduceLeDiff, Nat.reduceEqDiff, Nat.reduceLT, Int.reduceNeg, Int.reduceAdd, Int.reduceSub, Int.reduceMul, Int.reduceLE, Int.reduceLT, Int.reduceEq, Int.reduceToNat, reduceCtorEq, evL74x0, B74x0, Int.lt_irrefl]
    exact ⟨stm, rfl⟩
  · intro i x r hi hx ih K stm st l hK hst hr
    have hi' : (i : Int) < ps.length := by omega
    obtain ⟨K, rfl⟩ : ∃ K', K = K' + 1 := ⟨K - 1, by simp at hK; omega⟩
    obtain ⟨t1, t2⟩ := takes_in' x
    simp only [runStp] at hr
    split at hr
    · rename_i st' hs
      obtain ⟨h1, v, h2, hval⟩ := run_valS d c row st st' x hs
      have hd : (st.length : Int) - x.takes = ((st.length - x.takes.toNat : Nat) : Int) := by omega
      have hle : ((st.length - x.takes.toNat : Nat) : Int) ≤ (st.length : Int) := by omega
      have htk : ((st.map Val.cells).drop (st.length - x.takes.toNat)).take (st.length - (st.length - x.takes.toNat)) = (st.map Val.cells).drop (st.length - x.takes.toNat) := List.take_of_length_le (by simp)
      generalize hAe : st.length - x.takes.toNat = A at *
      have hA : A ≤ st.length := by omega
      have h3 : A + 1 < 4294967296 := by omega
      have h4 : st.length + 1 < 4294967296 := by omega
      have hlen : st'.length = A + 1 := by rw [h2]; simp; omega
      have hmap : st'.map Val.cells = (st.map Val.cells).take A ++ [Val.cells v] := by rw [h2]; simp [List.map_take]
      obtain ⟨stm', ih'⟩ := ih K (stm + 1) st' l (by simp at hK; omega) (by omega) hr
      rw [hlen, hmap] at ih'
      simp only [Int.natCast_add, Int.natCast_one, Val.cells] at ih' hval
      refine ⟨stm', ?_⟩
      by_cases hAl : A = st.length
      · have hAl' : (A = st.length) = True := eq_true hAl
        have htk2 : (st.map Val.cells).take A = st.map Val.cells := List.take_of_length_le (by simp; omega)
        rw [htk2] at ih'
        rw [← ih', LoopS_eq]
        simp -implicitDefEqProofs (disch := first | omega | assumption) only [go_sem, Nat.sub_zero, List.drop_zero, eq_self, Option.getD_none, Option.getD_some, Option.isSome_none, Option.isSome_some, Option.isNone_none, Option.isNone_some, Bool.or_false, Bool.false_or, Bool.and_false, Bool.false_and, Int.le_refl, Nat.le_refl, List.length_map, List.getElem?_map, Int.natCast_add, Int.natCast_one, List.append_assoc, List.length_append, Nat.add_assoc, and_self, and_true, true_and, and_false, false_and, or_true, true_or, or_false, false_or, not_true_eq_false, not_false_eq_true, Int.cast_ofNat_Int, Int.natCast_nonneg, Int.toNat_natCast, ne_eq, not_true_eq_false, not_false_eq_true, Nat.reduceBEq, Nat.reduceAdd, Nat.reduceSub, Nat.reduceMul, Nat.reduceLeDiff, Nat.reduceEqDiff, Nat.reduceLT, Int.reduceNeg, Int.reduceAdd, Int.reduceSub, Int.reduceMul, Int.reduceLE, Int.reduceLT, Int.reduceEq, Int.reduceToNat, reduceCtorEq, evL74x0, B74x0, evC_draw, evD74x0, E74x0, evC_draw, evD74x1, E74x1, hi', hx, Prt.cells, run_takes, Val.eta, Prt.eta, IntWalk.i64_in, hd, hle, htk, hval, Val.cells, h3, hAl', if_true, if_false]
      · have hAl' : (A = st.length) = False := eq_false hAl
        rw [← ih', LoopS_eq]
        simp -implicitDefEqProofs (disch := first | omega | assumption) only [go_sem, Nat.sub_zero, List.drop_zero, eq_self, Option.getD_none, Option.getD_some, Option.isSome_none, Option.isSome_some, Option.isNone_none, Option.isNone_some, Bool.or_false, Bool.false_or, Bool.and_false, Bool.false_and, Int.le_refl, Nat.le_refl, List.length_map, List.getElem?_map, Int.natCast_add, Int.natCast_one, List.append_assoc, List.length_append, Nat.add_assoc, and_self, and_true, true_and, and_false, false_and, or_true, true_or, or_false, false_or, not_true_eq_false, not_false_eq_true, Int.cast_ofNat_Int, Int.natCast_nonneg, Int.toNat_natCast, ne_eq, not_true_eq_false, not_false_eq_true, Nat.reduceBEq, Nat.reduceAdd, Nat.reduceSub, Nat.reduceMul, Nat.reduceLeDiff, Nat.reduceEqDiff, Nat.reduceLT, Int.reduceNeg, Int.reduceAdd, Int.reduceSub, Int.reduceMul, Int.reduceLE, Int.reduceLT, Int.reduceEq, Int.reduceToNat, reduceCtorEq, evL74x0, B74x0, evC_draw, evD74x0, E74x0, evC_draw, evD74x1, E74x1, hi', hx, Prt.cells, run_takes, Val.eta, Prt.eta, IntWalk.i64_in, hd, hle, htk, hval, Val.cells, h3, hAl', if_true, if_false]
    · cases hr
end Go.Proofs.Ytgepapgabnaonaa.PE
