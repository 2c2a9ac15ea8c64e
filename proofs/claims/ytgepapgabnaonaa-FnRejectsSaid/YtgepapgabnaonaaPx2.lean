/- The kind of an expression, the program's. -/
import Derived.Test.YtgepapgabnaonaaPx1
set_option linter.unusedSimpArgs false
set_option linter.unusedVariables false
set_option maxHeartbeats 4000000
namespace Go.Proofs.Ytgepapgabnaonaa.PE
open Go.RowKit

/-- What stands behind a part. -/
def stpI (cs : List Col) (st : List Int) (p : Prt) : Option (List Int) :=
  if p.tells cs.length then (if (st.length : Int) < p.takes then none else
    if (kindOf cs p (st.drop (st.length - p.takes.toNat))).2 then some (st.take (st.length - p.takes.toNat) ++ [(kindOf cs p (st.drop (st.length - p.takes.toNat))).1]) else none) else none
def runStp {α β : Type} (f : α → β → Option α) : α → List β → Option α
  | a, [] => some a
  | a, p :: r => match f a p with
    | some a' => runStp f a' r
    | none => none
theorem takes_in (p : Prt) : 0 ≤ p.takes ∧ p.takes ≤ 2 := by
  unfold Prt.takes
  repeat' split
  all_goals omega
theorem stpI_len {cs : List Col} {st st' : List Int} {p : Prt} (h : stpI cs st p = some st') : st'.length ≤ st.length + 1 := by
  unfold stpI at h
  split at h
  · split at h
    · cases h
    · split at h
      · injection h with h
        subst h
        simp
      · cases h
  · cases h
def LoopPost (x : Option (List Int)) (Y : Out) : Prop := match x with
  | some l => ∃ stm', Y = some (.exit 0, [(4, .undef), (5, .ref 0 stm' 0 l.length false)], [.rows stm' 1 (l.map intC)])
  | none => ∃ w h', Y = some (.ret, [(4, .int .i64 (-1)), (5, w)], h')
theorem loop_kindI (d : Nat) (c c' : Bool) (cs : List Col) (ps : List Prt) (hc : cs.length < 1099511627776) (hp : ps.length ≤ 1000) : ∀ (rest : List Prt) (i : Nat), ps.drop i = rest → i ≤ ps.length → ∀ (K stm : Nat) (st : List Int), rest.length ≤ K → st.length ≤ i →
    LoopPost (runStp (stpI cs) st rest) (LoopS (runD tab noExt (d + 5)) (drawI (runD tab noExt (d + 5))) [0, 5, 19, 20, 21] [4, 5] L43x0 1 K [(0, .sl c 2 (cs.map Col.cells)), (5, .ref 0 stm 0 st.length false), (19, .sl c' 5 (ps.map Prt.cells)), (20, .int .i64 (ps.length : Int)), (21, .int .i64 (i : Int))] [.rows stm 1 (st.map intC)]) := by
  refine drop_to ps (fun i rest => ∀ (K stm : Nat) (st : List Int), rest.length ≤ K → st.length ≤ i → LoopPost (runStp (stpI cs) st rest) (LoopS (runD tab noExt (d + 5)) (drawI (runD tab noExt (d + 5))) [0, 5, 19, 20, 21] [4, 5] L43x0 1 K [(0, .sl c 2 (cs.map Col.cells)), (5, .ref 0 stm 0 st.length false), (19, .sl c' 5 (ps.map Prt.cells)), (20, .int .i64 (ps.length : Int)), (21, .int .i64 (i : Int))] [.rows stm 1 (st.map intC)])) ?_ ?_
  · intro K stm st hK hst
    rw [LoopS_eq]
    simp -implicitDefEqProofs only [go_sem, Nat.sub_zero, List.drop_zero, eq_self, Option.getD_none, Option.getD_some, Option.isSome_none, Option.isSome_some, Option.isNone_none, Option.isNone_some, Bool.or_false, Bool.false_or, Bool.and_false, Bool.false_and, Int.le_refl, Nat.le_refl, List.length_map, List.getElem?_map, Int.natCast_add, Int.natCast_one, List.append_assoc, List.length_append, Nat.add_assoc, and_self, and_true, true_and, and_false, false_and, or_true, true_or, or_false, false_or, not_true_eq_false, not_false_eq_true, Int.cast_ofNat_Int, Int.natCast_nonneg, Int.toNat_natCast, ne_eq, not_true_eq_false, not_false_eq_true, Nat.reduceBEq, Nat.reduceAdd, Nat.reduceSub, Nat.reduceMul, Nat.reduceLeDiff, Nat.reduceEqDiff, Nat.reduceLT, Int.reduceNeg, Int.reduceAdd, Int.reduceSub, Int.reduceMul, Int.reduceLE, Int.reduceLT, Int.reduceEq, Int.reduceToNat, reduceCtorEq, evL43x0, B43x0, Int.lt_irrefl, runStp]
    exact ⟨stm, rfl⟩
  · intro i x r hi hx ih K stm st hK hst
    have hi' : (i : Int) < ps.length := by omega
    have hxm := map_at Prt.cells hx
    obtain ⟨K, rfl⟩ : ∃ K', K = K' + 1 := ⟨K - 1, by simp at hK; omega⟩
    obtain ⟨t1, t2⟩ := takes_in x
    rw [LoopS_eq]
    by_cases ht : x.tells cs.length = true
    · by_cases hl : (st.length : Int) < x.takes
      · have e : runStp (stpI cs) st (x :: r) = none := by simp [runStp, stpI, ht, hl]
        rw [e]
        simp -implicitDefEqProofs (disch := first | omega | assumption) only [go_sem, Nat.sub_zero, List.drop_zero, eq_self, Option.getD_none, Option.getD_some, Option.isSome_none, Option.isSome_some, Option.isNone_none, Option.isNone_some, Bool.or_false, Bool.false_or, Bool.and_false, Bool.false_and, Int.le_refl, Nat.le_refl, List.length_map, List.getElem?_map, Int.natCast_add, Int.natCast_one, List.append_assoc, List.length_append, Nat.add_assoc, and_self, and_true, true_and, and_false, false_and, or_true, true_or, or_false, false_or, not_true_eq_false, not_false_eq_true, Int.cast_ofNat_Int, Int.natCast_nonneg, Int.toNat_natCast, ne_eq, not_true_eq_false, not_false_eq_true, Nat.reduceBEq, Nat.reduceAdd, Nat.reduceSub, Nat.reduceMul, Nat.reduceLeDiff, Nat.reduceEqDiff, Nat.reduceLT, Int.reduceNeg, Int.reduceAdd, Int.reduceSub, Int.reduceMul, Int.reduceLE, Int.reduceLT, Int.reduceEq, Int.reduceToNat, reduceCtorEq, evL43x0, B43x0, hi', hx, Prt.cells, run_takes, run_tells, Val.eta, Prt.eta, ht, hl]
        exact ⟨_, _, rfl⟩
      · have h2 : st.length < 4294967296 := by omega
        have hd : (st.length : Int) - x.takes = ((st.length - x.takes.toNat : Nat) : Int) := by omega
        have hins : ((st.map intC).drop (st.length - x.takes.toNat)).take (st.length - (st.length - x.takes.toNat)) = (st.drop (st.length - x.takes.toNat)).map intC := by
          rw [← List.map_drop, List.take_of_length_le (by simp)]
        have hle : ((st.length - x.takes.toNat : Nat) : Int) ≤ (st.length : Int) := by omega
        have hk := run_kind d x.kind x.n x.v.kind x.v.n x.v.s c false cs (st.drop (st.length - x.takes.toNat)) hc (by simp; omega) ht (fun h4 => by
          have : x.takes = 2 := by unfold Prt.takes; rw [if_neg (by omega), if_pos h4]
          simp; omega)
        rw [← hins] at hk
        simp only [Prt.eta, Val.eta] at hk
        simp -implicitDefEqProofs (disch := first | omega | assumption) only [go_sem, Nat.sub_zero, List.drop_zero, eq_self, Option.getD_none, Option.getD_some, Option.isSome_none, Option.isSome_some, Option.isNone_none, Option.isNone_some, Bool.or_false, Bool.false_or, Bool.and_false, Bool.false_and, Int.le_refl, Nat.le_refl, List.length_map, List.getElem?_map, Int.natCast_add, Int.natCast_one, List.append_assoc, List.length_append, Nat.add_assoc, and_self, and_true, true_and, and_false, false_and, or_true, true_or, or_false, false_or, not_true_eq_false, not_false_eq_true, Int.cast_ofNat_Int, Int.natCast_nonneg, Int.toNat_natCast, ne_eq, not_true_eq_false, not_false_eq_true, Nat.reduceBEq, Nat.reduceAdd, Nat.reduceSub, Nat.reduceMul, Nat.reduceLeDiff, Nat.reduceEqDiff, Nat.reduceLT, Int.reduceNeg, Int.reduceAdd, Int.reduceSub, Int.reduceMul, Int.reduceLE, Int.reduceLT, Int.reduceEq, Int.reduceToNat, reduceCtorEq, evL43x0, B43x0, evC_draw, evD43x0, E43x0, hi', hx, Prt.cells, run_takes, run_tells, Val.eta, Prt.eta, ht, hl, IntWalk.i64_in, hd, hle, hk]
        have hA : st.length - x.takes.toNat ≤ st.length := by omega
        generalize hAe : st.length - x.takes.toNat = A at *
        cases hb : (kindOf cs x (st.drop A)).2
        · have e : runStp (stpI cs) st (x :: r) = none := by simp [runStp, stpI, ht, hl, hAe, hb]
          rw [e]
          simp -implicitDefEqProofs (disch := first | omega | assumption) only [go_sem, Nat.sub_zero, List.drop_zero, eq_self, Option.getD_none, Option.getD_some, Option.isSome_none, Option.isSome_some, Option.isNone_none, Option.isNone_some, Bool.or_false, Bool.false_or, Bool.and_false, Bool.false_and, Int.le_refl, Nat.le_refl, List.length_map, List.getElem?_map, Int.natCast_add, Int.natCast_one, List.append_assoc, List.length_append, Nat.add_assoc, and_self, and_true, true_and, and_false, false_and, or_true, true_or, or_false, false_or, not_true_eq_false, not_false_eq_true, Int.cast_ofNat_Int, Int.natCast_nonneg, Int.toNat_natCast, ne_eq, not_true_eq_false, not_false_eq_true, Nat.reduceBEq, Nat.reduceAdd, Nat.reduceSub, Nat.reduceMul, Nat.reduceLeDiff, Nat.reduceEqDiff, Nat.reduceLT, Int.reduceNeg, Int.reduceAdd, Int.reduceSub, Int.reduceMul, Int.reduceLE, Int.reduceLT, Int.reduceEq, Int.reduceToNat, reduceCtorEq, hb]
          exact ⟨_, _, rfl⟩
        · have e : runStp (stpI cs) st (x :: r) = runStp (stpI cs) (st.take A ++ [(kindOf cs x (st.drop A)).1]) r := by simp [runStp, stpI, ht, hl, hAe, hb]
          rw [e]
          have ih' := ih K (stm + 1) (st.take A ++ [(kindOf cs x (st.drop A)).1]) (by simp at hK; omega) (by simp; omega)
          have hlen : (st.take A ++ [(kindOf cs x (st.drop A)).1]).length = A + 1 := by simp; omega
          have hmap : (st.take A ++ [(kindOf cs x (st.drop A)).1]).map intC = (st.map intC).take A ++ [[.int .i64 (kindOf cs x (st.drop A)).1]] := by simp [List.map_take, intC]
          rw [hlen, hmap] at ih'
          simp only [Int.natCast_add, Int.natCast_one] at ih'
          have h3 : A + 1 < 4294967296 := by omega
          have h3' : st.length + 1 < 4294967296 := by omega
          by_cases hAl : A = st.length
          · have htk : (st.map intC).take A = st.map intC := List.take_of_length_le (by simp; omega)
            rw [htk] at ih'
            simp -implicitDefEqProofs (disch := first | omega | assumption) only [go_sem, Nat.sub_zero, List.drop_zero, eq_self, Option.getD_none, Option.getD_some, Option.isSome_none, Option.isSome_some, Option.isNone_none, Option.isNone_some, Bool.or_false, Bool.false_or, Bool.and_false, Bool.false_and, Int.le_refl, Nat.le_refl, List.length_map, List.getElem?_map, Int.natCast_add, Int.natCast_one, List.append_assoc, List.length_append, Nat.add_assoc, and_self, and_true, true_and, and_false, false_and, or_true, true_or, or_false, false_or, not_true_eq_false, not_false_eq_true, Int.cast_ofNat_Int, Int.natCast_nonneg, Int.toNat_natCast, ne_eq, not_true_eq_false, not_false_eq_true, Nat.reduceBEq, Nat.reduceAdd, Nat.reduceSub, Nat.reduceMul, Nat.reduceLeDiff, Nat.reduceEqDiff, Nat.reduceLT, Int.reduceNeg, Int.reduceAdd, Int.reduceSub, Int.reduceMul, Int.reduceLE, Int.reduceLT, Int.reduceEq, Int.reduceToNat, reduceCtorEq, hb, hd, hle, h3', hAl, IntWalk.i64_in, true_and]
            simp only [hAl, List.take_length] at ih'
            exact ih'
          · simp -implicitDefEqProofs (disch := first | omega | assumption) only [go_sem, Nat.sub_zero, List.drop_zero, eq_self, Option.getD_none, Option.getD_some, Option.isSome_none, Option.isSome_some, Option.isNone_none, Option.isNone_some, Bool.or_false, Bool.false_or, Bool.and_false, Bool.false_and, Int.le_refl, Nat.le_refl, List.length_map, List.getElem?_map, Int.natCast_add, Int.natCast_one, List.append_assoc, List.length_append, Nat.add_assoc, and_self, and_true, true_and, and_false, false_and, or_true, true_or, or_false, false_or, not_true_eq_false, not_false_eq_true, Int.cast_ofNat_Int, Int.natCast_nonneg, Int.toNat_natCast, ne_eq, not_true_eq_false, not_false_eq_true, Nat.reduceBEq, Nat.reduceAdd, Nat.reduceSub, Nat.reduceMul, Nat.reduceLeDiff, Nat.reduceEqDiff, Nat.reduceLT, Int.reduceNeg, Int.reduceAdd, Int.reduceSub, Int.reduceMul, Int.reduceLE, Int.reduceLT, Int.reduceEq, Int.reduceToNat, reduceCtorEq, hb, hd, hle, h3, hAl, IntWalk.i64_in]
            exact ih'
    · have e : runStp (stpI cs) st (x :: r) = none := by simp [runStp, stpI, ht]
      rw [e]
      simp -implicitDefEqProofs (disch := first | omega | assumption) only [go_sem, Nat.sub_zero, List.drop_zero, eq_self, Option.getD_none, Option.getD_some, Option.isSome_none, Option.isSome_some, Option.isNone_none, Option.isNone_some, Bool.or_false, Bool.false_or, Bool.and_false, Bool.false_and, Int.le_refl, Nat.le_refl, List.length_map, List.getElem?_map, Int.natCast_add, Int.natCast_one, List.append_assoc, List.length_append, Nat.add_assoc, and_self, and_true, true_and, and_false, false_and, or_true, true_or, or_false, false_or, not_true_eq_false, not_false_eq_true, Int.cast_ofNat_Int, Int.natCast_nonneg, Int.toNat_natCast, ne_eq, not_true_eq_false, not_false_eq_true, Nat.reduceBEq, Nat.reduceAdd, Nat.reduceSub, Nat.reduceMul, Nat.reduceLeDiff, Nat.reduceEqDiff, Nat.reduceLT, Int.reduceNeg, Int.reduceAdd, Int.reduceSub, Int.reduceMul, Int.reduceLE, Int.reduceLT, Int.reduceEq, Int.reduceToNat, reduceCtorEq, evL43x0, B43x0, hi', hx, Prt.cells, run_takes, run_tells, Val.eta, Prt.eta, ht]
      exact ⟨_, _, rfl⟩

def exprKind (cs : List Col) (ps : List Prt) : Int :=
  if colsOk cs then (if (12 : Int) < ps.length then -1 else match runStp (stpI cs) [] ps with
    | some [k] => k
    | _ => -1) else -1
-- find43
theorem run_exprKindI (d : Nat) (c c' : Bool) (cs : List Col) (ps : List Prt) (hc : cs.length < 1099511627776) : retP (runD tab noExt (d + 6)) 43 [.sl c 2 (cs.map Col.cells), .sl c' 5 (ps.map Prt.cells)] = some [.int .i64 (exprKind cs ps)] := by
  rw [retP, runD_eq find43 _ _ _ (by simp)]
  by_cases h1 : colsOk cs = true
  · by_cases h2 : (12 : Int) < ps.length
    · simp -implicitDefEqProofs (disch := first | omega | assumption) only [go_sem, Nat.sub_zero, List.drop_zero, eq_self, Option.getD_none, Option.getD_some, Option.isSome_none, Option.isSome_some, Option.isNone_none, Option.isNone_some, Bool.or_false, Bool.false_or, Bool.and_false, Bool.false_and, Int.le_refl, Nat.le_refl, List.length_map, List.getElem?_map, Int.natCast_add, Int.natCast_one, List.append_assoc, List.length_append, Nat.add_assoc, and_self, and_true, true_and, and_false, false_and, or_true, true_or, or_false, false_or, not_true_eq_false, not_false_eq_true, Int.cast_ofNat_Int, Int.natCast_nonneg, Int.toNat_natCast, ne_eq, not_true_eq_false, not_false_eq_true, Nat.reduceBEq, Nat.reduceAdd, Nat.reduceSub, Nat.reduceMul, Nat.reduceLeDiff, Nat.reduceEqDiff, Nat.reduceLT, Int.reduceNeg, Int.reduceAdd, Int.reduceSub, Int.reduceMul, Int.reduceLE, Int.reduceLT, Int.reduceEq, Int.reduceToNat, reduceCtorEq, run_colsOkI, h1, h2]
      simp [exprKind, h1, h2]
    · have hl := loop_kindI d c c' cs ps hc (by omega) ps 0 rfl (Nat.zero_le _) 1099511627775 0 [] (by omega) (Nat.zero_le _)
      simp only [List.length_nil, List.map_nil, Int.natCast_zero] at hl
      simp -implicitDefEqProofs (disch := first | omega | assumption) only [go_sem, Nat.sub_zero, List.drop_zero, eq_self, Option.getD_none, Option.getD_some, Option.isSome_none, Option.isSome_some, Option.isNone_none, Option.isNone_some, Bool.or_false, Bool.false_or, Bool.and_false, Bool.false_and, Int.le_refl, Nat.le_refl, List.length_map, List.getElem?_map, Int.natCast_add, Int.natCast_one, List.append_assoc, List.length_append, Nat.add_assoc, and_self, and_true, true_and, and_false, false_and, or_true, true_or, or_false, false_or, not_true_eq_false, not_false_eq_true, Int.cast_ofNat_Int, Int.natCast_nonneg, Int.toNat_natCast, ne_eq, not_true_eq_false, not_false_eq_true, Nat.reduceBEq, Nat.reduceAdd, Nat.reduceSub, Nat.reduceMul, Nat.reduceLeDiff, Nat.reduceEqDiff, Nat.reduceLT, Int.reduceNeg, Int.reduceAdd, Int.reduceSub, Int.reduceMul, Int.reduceLE, Int.reduceLT, Int.reduceEq, Int.reduceToNat, reduceCtorEq, run_colsOkI, h1, h2]
      generalize hY : LoopS _ _ _ _ _ _ _ _ _ = Y at hl ⊢
      cases hr : runStp (stpI cs) [] ps with
      | none =>
        rw [hr] at hl
        obtain ⟨w, h', rfl⟩ := hl
        simp -implicitDefEqProofs only [go_sem, Nat.sub_zero, List.drop_zero, eq_self, Option.getD_none, Option.getD_some, Option.isSome_none, Option.isSome_some, Option.isNone_none, Option.isNone_some, Bool.or_false, Bool.false_or, Bool.and_false, Bool.false_and, Int.le_refl, Nat.le_refl, List.length_map, List.getElem?_map, Int.natCast_add, Int.natCast_one, List.append_assoc, List.length_append, Nat.add_assoc, and_self, and_true, true_and, and_false, false_and, or_true, true_or, or_false, false_or, not_true_eq_false, not_false_eq_true, Int.cast_ofNat_Int, Int.natCast_nonneg, Int.toNat_natCast, ne_eq, not_true_eq_false, not_false_eq_true, Nat.reduceBEq, Nat.reduceAdd, Nat.reduceSub, Nat.reduceMul, Nat.reduceLeDiff, Nat.reduceEqDiff, Nat.reduceLT, Int.reduceNeg, Int.reduceAdd, Int.reduceSub, Int.reduceMul, Int.reduceLE, Int.reduceLT, Int.reduceEq, Int.reduceToNat, reduceCtorEq]
        simp [exprKind, h1, h2, hr]
      | some l =>
        rw [hr] at hl
        obtain ⟨stm, rfl⟩ := hl
        match l, hr with
        | [], hr =>
          simp -implicitDefEqProofs only [go_sem, Nat.sub_zero, List.drop_zero, eq_self, Option.getD_none, Option.getD_some, Option.isSome_none, Option.isSome_some, Option.isNone_none, Option.isNone_some, Bool.or_false, Bool.false_or, Bool.and_false, Bool.false_and, Int.le_refl, Nat.le_refl, List.length_map, List.getElem?_map, Int.natCast_add, Int.natCast_one, List.append_assoc, List.length_append, Nat.add_assoc, and_self, and_true, true_and, and_false, false_and, or_true, true_or, or_false, false_or, not_true_eq_false, not_false_eq_true, Int.cast_ofNat_Int, Int.natCast_nonneg, Int.toNat_natCast, ne_eq, not_true_eq_false, not_false_eq_true, Nat.reduceBEq, Nat.reduceAdd, Nat.reduceSub, Nat.reduceMul, Nat.reduceLeDiff, Nat.reduceEqDiff, Nat.reduceLT, Int.reduceNeg, Int.reduceAdd, Int.reduceSub, Int.reduceMul, Int.reduceLE, Int.reduceLT, Int.reduceEq, Int.reduceToNat, reduceCtorEq]
          simp [exprKind, h1, h2, hr]
        | [k], hr =>
          simp -implicitDefEqProofs only [go_sem, Nat.sub_zero, List.drop_zero, eq_self, Option.getD_none, Option.getD_some, Option.isSome_none, Option.isSome_some, Option.isNone_none, Option.isNone_some, Bool.or_false, Bool.false_or, Bool.and_false, Bool.false_and, Int.le_refl, Nat.le_refl, List.length_map, List.getElem?_map, Int.natCast_add, Int.natCast_one, List.append_assoc, List.length_append, Nat.add_assoc, and_self, and_true, true_and, and_false, false_and, or_true, true_or, or_false, false_or, not_true_eq_false, not_false_eq_true, Int.cast_ofNat_Int, Int.natCast_nonneg, Int.toNat_natCast, ne_eq, not_true_eq_false, not_false_eq_true, Nat.reduceBEq, Nat.reduceAdd, Nat.reduceSub, Nat.reduceMul, Nat.reduceLeDiff, Nat.reduceEqDiff, Nat.reduceLT, Int.reduceNeg, Int.reduceAdd, Int.reduceSub, Int.reduceMul, Int.reduceLE, Int.reduceLT, Int.reduceEq, Int.reduceToNat, reduceCtorEq, intC, Int.toNat_zero]
          simp [exprKind, h1, h2, hr]
        | a :: b :: r, hr =>
          have h3 : ((r.length : Int) + 2 = 1) = False := eq_false (by omega)
          simp -implicitDefEqProofs only [go_sem, Nat.sub_zero, List.drop_zero, eq_self, Option.getD_none, Option.getD_some, Option.isSome_none, Option.isSome_some, Option.isNone_none, Option.isNone_some, Bool.or_false, Bool.false_or, Bool.and_false, Bool.false_and, Int.le_refl, Nat.le_refl, List.length_map, List.getElem?_map, Int.natCast_add, Int.natCast_one, List.append_assoc, List.length_append, Nat.add_assoc, and_self, and_true, true_and, and_false, false_and, or_true, true_or, or_false, false_or, not_true_eq_false, not_false_eq_true, Int.cast_ofNat_Int, Int.natCast_nonneg, Int.toNat_natCast, ne_eq, not_true_eq_false, not_false_eq_true, Nat.reduceBEq, Nat.reduceAdd, Nat.reduceSub, Nat.reduceMul, Nat.reduceLeDiff, Nat.reduceEqDiff, Nat.reduceLT, Int.reduceNeg, Int.reduceAdd, Int.reduceSub, Int.reduceMul, Int.reduceLE, Int.reduceLT, Int.reduceEq, Int.reduceToNat, reduceCtorEq, List.length_cons, h3]
          simp [exprKind, h1, h2, hr]
  · simp -implicitDefEqProofs (disch := first | omega | assumption) only [go_sem, Nat.sub_zero, List.drop_zero, eq_self, Option.getD_none, Option.getD_some, Option.isSome_none, Option.isSome_some, Option.isNone_none, Option.isNone_some, Bool.or_false, Bool.false_or, Bool.and_false, Bool.false_and, Int.le_refl, Nat.le_refl, List.length_map, List.getElem?_map, Int.natCast_add, Int.natCast_one, List.append_assoc, List.length_append, Nat.add_assoc, and_self, and_true, true_and, and_false, false_and, or_true, true_or, or_false, false_or, not_true_eq_false, not_false_eq_true, Int.cast_ofNat_Int, Int.natCast_nonneg, Int.toNat_natCast, ne_eq, not_true_eq_false, not_false_eq_true, Nat.reduceBEq, Nat.reduceAdd, Nat.reduceSub, Nat.reduceMul, Nat.reduceLeDiff, Nat.reduceEqDiff, Nat.reduceLT, Int.reduceNeg, Int.reduceAdd, Int.reduceSub, Int.reduceMul, Int.reduceLE, Int.reduceLT, Int.reduceEq, Int.reduceToNat, reduceCtorEq, run_colsOkI, h1]
    simp [exprKind, h1]
end Go.Proofs.Ytgepapgabnaonaa.PE
