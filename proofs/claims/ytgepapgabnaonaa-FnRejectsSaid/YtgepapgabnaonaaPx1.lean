/- Parts of expressions: the kinds that they put down, the program's. -/
import Derived.Test.YtgepapgabnaonaaPw1
set_option linter.unusedSimpArgs false
set_option linter.unusedVariables false
set_option maxHeartbeats 4000000
namespace Go.Proofs.Ytgepapgabnaonaa.PE
open Go.RowKit

/-- A part. -/
structure Prt where
  kind : Int
  n : Int
  v : Val
  deriving DecidableEq
def Prt.cells (p : Prt) : List V := [.int .i64 p.kind, .int .i64 p.n, .int .i64 p.v.kind, .int .i64 p.v.n, .str p.v.s]
theorem Prt.eta (p : Prt) : (⟨p.kind, p.n, p.v⟩ : Prt) = p := rfl
def Prt.takes (p : Prt) : Int := if p.kind = 3 then 2 else if p.kind = 4 then 2 else if p.kind = 5 then 2 else if p.kind = 6 then 2 else if p.kind = 7 then 1 else if p.kind = 8 then 1 else 0
def Prt.tells (n : Nat) (p : Prt) : Bool :=
  if p.kind = 1 then (if p.n = 0 then (if p.v.ok then !decide (p.v.kind = 0) else false) else false)
  else if p.kind = 2 then (if 0 ≤ p.n ∧ p.n ≤ (n : Int) - 1 then decide (p.v = Val.zero) else false)
  else if p.kind = 4 then (if 1 ≤ p.n ∧ p.n ≤ 4 then decide (p.v = Val.zero) else false)
  else if p.kind = 3 ∨ p.kind = 5 ∨ p.kind = 6 ∨ p.kind = 7 ∨ p.kind = 8 then (if p.n = 0 then decide (p.v = Val.zero) else false)
  else false
theorem run_takes (d : Nat) (py pz : Int) (pvk pvn : Int) (pvq : ByteArray) : retP (runD tab noExt (d + 1)) 89 [.agg [.int .i64 py, .int .i64 pz, .int .i64 pvk, .int .i64 pvn, .str pvq]] = some [.int .i64 (Prt.takes (⟨py, pz, (⟨pvk, pvn, pvq⟩ : Val)⟩ : Prt))] := by
  rw [retP, runD_eq find89 _ _ _ (by simp)]
  simp -implicitDefEqProofs (disch := omega) only [go_sem, Nat.sub_zero, List.drop_zero, eq_self, Option.getD_none, Option.getD_some, Option.isSome_none, Option.isSome_some, Option.isNone_none, Option.isNone_some, Bool.or_false, Bool.false_or, Bool.and_false, Bool.false_and, Int.le_refl, Nat.le_refl, List.length_map, List.getElem?_map, Int.natCast_add, Int.natCast_one, List.append_assoc, List.length_append, Nat.add_assoc, and_self, and_true, true_and, and_false, false_and, or_true, true_or, or_false, false_or, not_true_eq_false, not_false_eq_true, Int.cast_ofNat_Int, Int.natCast_nonneg, Int.toNat_natCast, ne_eq, not_true_eq_false, not_false_eq_true, Nat.reduceBEq, Nat.reduceAdd, Nat.reduceSub, Nat.reduceMul, Nat.reduceLeDiff, Nat.reduceEqDiff, Nat.reduceLT, Int.reduceNeg, Int.reduceAdd, Int.reduceSub, Int.reduceMul, Int.reduceLE, Int.reduceLT, Int.reduceEq, Int.reduceToNat, reduceCtorEq]
  repeat' ((first | rw [GuardI_ndec] | rw [CondC_ndec] | rw [GuardQ_ndec] | rw [GuardI_dec] | rw [CondC_dec] | rw [GuardQ_dec] | rw [GuardI_nby] | rw [CondC_nby] | rw [GuardQ_nby] | rw [GuardQ_by] | rw [GuardI_by] | rw [CondC_by]) <;> split <;> simp -implicitDefEqProofs (disch := omega) only [go_sem, Nat.sub_zero, List.drop_zero, eq_self, Option.getD_none, Option.getD_some, Option.isSome_none, Option.isSome_some, Option.isNone_none, Option.isNone_some, Bool.or_false, Bool.false_or, Bool.and_false, Bool.false_and, Int.le_refl, Nat.le_refl, List.length_map, List.getElem?_map, Int.natCast_add, Int.natCast_one, List.append_assoc, List.length_append, Nat.add_assoc, and_self, and_true, true_and, and_false, false_and, or_true, true_or, or_false, false_or, not_true_eq_false, not_false_eq_true, Int.cast_ofNat_Int, Int.natCast_nonneg, Int.toNat_natCast, ne_eq, not_true_eq_false, not_false_eq_true, Nat.reduceBEq, Nat.reduceAdd, Nat.reduceSub, Nat.reduceMul, Nat.reduceLeDiff, Nat.reduceEqDiff, Nat.reduceLT, Int.reduceNeg, Int.reduceAdd, Int.reduceSub, Int.reduceMul, Int.reduceLE, Int.reduceLT, Int.reduceEq, Int.reduceToNat, reduceCtorEq, *])
  all_goals (first | (simp only [Prt.takes, reduceIte, if_true, if_false, Bool.false_eq_true, *]; done) | (simp_all [Prt.takes]; done) | (simp_all [Prt.takes]; omega) | (simp_all [Prt.takes]; grind) | grind [Prt.takes])
theorem run_tells (d : Nat) (py pz : Int) (pvk pvn : Int) (pvq : ByteArray) (c : Bool) (cs : List Col) (hc : cs.length < 1099511627776) : retP (runD tab noExt (d + 4)) 94 [.agg [.int .i64 py, .int .i64 pz, .int .i64 pvk, .int .i64 pvn, .str pvq], .sl c 2 (cs.map Col.cells)] = some [.bool (Prt.tells cs.length (⟨py, pz, (⟨pvk, pvn, pvq⟩ : Val)⟩ : Prt))] := by
  rw [retP, runD_eq find94 _ _ _ (by simp)]
  simp -implicitDefEqProofs (disch := omega) only [go_sem, Nat.sub_zero, List.drop_zero, eq_self, Option.getD_none, Option.getD_some, Option.isSome_none, Option.isSome_some, Option.isNone_none, Option.isNone_some, Bool.or_false, Bool.false_or, Bool.and_false, Bool.false_and, Int.le_refl, Nat.le_refl, List.length_map, List.getElem?_map, Int.natCast_add, Int.natCast_one, List.append_assoc, List.length_append, Nat.add_assoc, and_self, and_true, true_and, and_false, false_and, or_true, true_or, or_false, false_or, not_true_eq_false, not_false_eq_true, Int.cast_ofNat_Int, Int.natCast_nonneg, Int.toNat_natCast, ne_eq, not_true_eq_false, not_false_eq_true, Nat.reduceBEq, Nat.reduceAdd, Nat.reduceSub, Nat.reduceMul, Nat.reduceLeDiff, Nat.reduceEqDiff, Nat.reduceLT, Int.reduceNeg, Int.reduceAdd, Int.reduceSub, Int.reduceMul, Int.reduceLE, Int.reduceLT, Int.reduceEq, Int.reduceToNat, reduceCtorEq, run_ok, run_between, IntWalk.i64_in]
  repeat' ((first | rw [GuardI_ndec] | rw [CondC_ndec] | rw [GuardQ_ndec] | rw [GuardI_dec] | rw [CondC_dec] | rw [GuardQ_dec] | rw [GuardI_nby] | rw [CondC_nby] | rw [GuardQ_nby] | rw [GuardQ_by] | rw [GuardI_by] | rw [CondC_by]) <;> split <;> simp -implicitDefEqProofs (disch := omega) only [go_sem, Nat.sub_zero, List.drop_zero, eq_self, Option.getD_none, Option.getD_some, Option.isSome_none, Option.isSome_some, Option.isNone_none, Option.isNone_some, Bool.or_false, Bool.false_or, Bool.and_false, Bool.false_and, Int.le_refl, Nat.le_refl, List.length_map, List.getElem?_map, Int.natCast_add, Int.natCast_one, List.append_assoc, List.length_append, Nat.add_assoc, and_self, and_true, true_and, and_false, false_and, or_true, true_or, or_false, false_or, not_true_eq_false, not_false_eq_true, Int.cast_ofNat_Int, Int.natCast_nonneg, Int.toNat_natCast, ne_eq, not_true_eq_false, not_false_eq_true, Nat.reduceBEq, Nat.reduceAdd, Nat.reduceSub, Nat.reduceMul, Nat.reduceLeDiff, Nat.reduceEqDiff, Nat.reduceLT, Int.reduceNeg, Int.reduceAdd, Int.reduceSub, Int.reduceMul, Int.reduceLE, Int.reduceLT, Int.reduceEq, Int.reduceToNat, reduceCtorEq, run_ok, run_between, IntWalk.i64_in, *])
  all_goals (first | (simp only [Prt.tells, Val.zero, Val.mk.injEq, reduceIte, if_true, if_false, Bool.false_eq_true, *]; done) | (simp_all [Prt.tells, Val.zero, Val.mk.injEq]; done) | (simp_all [Prt.tells, Val.zero, Val.mk.injEq]; omega) | (simp_all [Prt.tells, Val.zero, Val.mk.injEq]; grind) | grind [Prt.tells, Val.zero, Val.mk.injEq])

-- find142
theorem clo_kind (d : Nat) (py pz : Int) (pvk pvn : Int) (pvq : ByteArray) (c : Bool) (l : List (List V)) (k x : Int) : callS (runD tab noExt (d + 1)) [.box [.int .i64 py, .int .i64 pz, .int .i64 pvk, .int .i64 pvn, .str pvq], .box [.sl c 1 l], .box [.int .i64 k]] 142 [.int .i64 x, .ptr 2 0 0 0] false = some (.bool (!decide (x = k)), [.box [.int .i64 py, .int .i64 pz, .int .i64 pvk, .int .i64 pvn, .str pvq], .box [.sl c 1 l], .box [.int .i64 k]]) := by
  rw [callS_eq, runD_eq find142 _ _ _ (by simp)]
  simp -implicitDefEqProofs (disch := omega) only [go_sem, Nat.sub_zero, List.drop_zero, eq_self, Option.getD_none, Option.getD_some, Option.isSome_none, Option.isSome_some, Option.isNone_none, Option.isNone_some, Bool.or_false, Bool.false_or, Bool.and_false, Bool.false_and, Int.le_refl, Nat.le_refl, List.length_map, List.getElem?_map, Int.natCast_add, Int.natCast_one, List.append_assoc, List.length_append, Nat.add_assoc, and_self, and_true, true_and, and_false, false_and, or_true, true_or, or_false, false_or, not_true_eq_false, not_false_eq_true, Int.cast_ofNat_Int, Int.natCast_nonneg, Int.toNat_natCast, ne_eq, not_true_eq_false, not_false_eq_true, Nat.reduceBEq, Nat.reduceAdd, Nat.reduceSub, Nat.reduceMul, Nat.reduceLeDiff, Nat.reduceEqDiff, Nat.reduceLT, Int.reduceNeg, Int.reduceAdd, Int.reduceSub, Int.reduceMul, Int.reduceLE, Int.reduceLT, Int.reduceEq, Int.reduceToNat, reduceCtorEq]
-- find141
theorem clo_all (d : Nat) (py pz : Int) (pvk pvn : Int) (pvq : ByteArray) (c : Bool) (ins : List Int) (k : Int) (hi : ins.length < 1099511627776) : callS (runD tab noExt (d + 4)) [.box [.int .i64 py, .int .i64 pz, .int .i64 pvk, .int .i64 pvn, .str pvq], .box [.sl c 1 (ins.map intC)]] 141 [.int .i64 k, .ptr 1 0 0 0] false = some (.bool (ins.all fun x => decide (x = k)), [.box [.int .i64 py, .int .i64 pz, .int .i64 pvk, .int .i64 pvn, .str pvq], .box [.sl c 1 (ins.map intC)]]) := by
  rw [callS_eq, runD_eq find141 _ _ _ (by simp)]
  have hcon := conInt (d + 1) [.box [.int .i64 py, .int .i64 pz, .int .i64 pvk, .int .i64 pvn, .str pvq], .box [.sl c 1 (ins.map intC)], .box [.int .i64 k]] c 142 [.ptr 2 0 0 0] ins (fun x => !decide (x = k)) hi rfl rfl (fun x _ => clo_kind d _ _ _ _ _ c _ k x)
  simp -implicitDefEqProofs (disch := omega) only [go_sem, Nat.sub_zero, List.drop_zero, eq_self, Option.getD_none, Option.getD_some, Option.isSome_none, Option.isSome_some, Option.isNone_none, Option.isNone_some, Bool.or_false, Bool.false_or, Bool.and_false, Bool.false_and, Int.le_refl, Nat.le_refl, List.length_map, List.getElem?_map, Int.natCast_add, Int.natCast_one, List.append_assoc, List.length_append, Nat.add_assoc, and_self, and_true, true_and, and_false, false_and, or_true, true_or, or_false, false_or, not_true_eq_false, not_false_eq_true, Int.cast_ofNat_Int, Int.natCast_nonneg, Int.toNat_natCast, ne_eq, not_true_eq_false, not_false_eq_true, Nat.reduceBEq, Nat.reduceAdd, Nat.reduceSub, Nat.reduceMul, Nat.reduceLeDiff, Nat.reduceEqDiff, Nat.reduceLT, Int.reduceNeg, Int.reduceAdd, Int.reduceSub, Int.reduceMul, Int.reduceLE, Int.reduceLT, Int.reduceEq, Int.reduceToNat, reduceCtorEq, hcon]
  rw [List.any_eq_not_all_not]
  simp

def kindOf (cs : List Col) (p : Prt) (ins : List Int) : Int × Bool :=
  if p.kind = 1 then (p.v.kind, true) else if p.kind = 2 then ((cs.getD p.n.toNat ⟨0, false⟩).kind, true) else if p.kind = 3 then (1, ins.all fun x => decide (x = 1))
  else if p.kind = 4 then (3, decide (ins.getD 0 0 = ins.getD 1 0)) else if p.kind = 8 then (3, true) else (3, ins.all fun x => decide (x = 3))
theorem tells_col {n : Nat} {p : Prt} (h : p.tells n = true) (h2 : p.kind = 2) : 0 ≤ p.n ∧ p.n < n := by
  unfold Prt.tells at h
  rw [if_neg (by omega), if_pos h2] at h
  split at h
  · omega
  · cases h
-- find95
theorem run_kind (d : Nat) (py pz : Int) (pvk pvn : Int) (pvq : ByteArray) (c c' : Bool) (cs : List Col) (ins : List Int) (hc : cs.length < 1099511627776) (hi : ins.length < 1099511627776) (ht : Prt.tells cs.length (⟨py, pz, (⟨pvk, pvn, pvq⟩ : Val)⟩ : Prt) = true) (h4 : py = 4 → 2 ≤ ins.length) :
    retP (runD tab noExt (d + 5)) 95 [.agg [.int .i64 py, .int .i64 pz, .int .i64 pvk, .int .i64 pvn, .str pvq], .sl c 2 (cs.map Col.cells), .sl c' 1 (ins.map intC)] = some [.int .i64 (kindOf cs (⟨py, pz, (⟨pvk, pvn, pvq⟩ : Val)⟩ : Prt) ins).1, .bool (kindOf cs (⟨py, pz, (⟨pvk, pvn, pvq⟩ : Val)⟩ : Prt) ins).2] := by
  rw [retP, runD_eq find95 _ _ _ (by simp)]
  have hall := fun k => clo_all d py pz pvk pvn pvq c' ins k hi
  by_cases h2 : py = 2
  · obtain ⟨g1, g2⟩ := tells_col ht h2
    dsimp only at g1 g2
    have hat := at_getD (⟨0, false⟩ : Col) (show pz.toNat < cs.length by omega)
    subst h2
    simp -implicitDefEqProofs (disch := omega) only [go_sem, Nat.sub_zero, List.drop_zero, eq_self, Option.getD_none, Option.getD_some, Option.isSome_none, Option.isSome_some, Option.isNone_none, Option.isNone_some, Bool.or_false, Bool.false_or, Bool.and_false, Bool.false_and, Int.le_refl, Nat.le_refl, List.length_map, List.getElem?_map, Int.natCast_add, Int.natCast_one, List.append_assoc, List.length_append, Nat.add_assoc, and_self, and_true, true_and, and_false, false_and, or_true, true_or, or_false, false_or, not_true_eq_false, not_false_eq_true, Int.cast_ofNat_Int, Int.natCast_nonneg, Int.toNat_natCast, ne_eq, not_true_eq_false, not_false_eq_true, Nat.reduceBEq, Nat.reduceAdd, Nat.reduceSub, Nat.reduceMul, Nat.reduceLeDiff, Nat.reduceEqDiff, Nat.reduceLT, Int.reduceNeg, Int.reduceAdd, Int.reduceSub, Int.reduceMul, Int.reduceLE, Int.reduceLT, Int.reduceEq, Int.reduceToNat, reduceCtorEq, hat, Col.cells, g1]
    simp [kindOf]
  · by_cases h4' : py = 4
    · have g := h4 h4'
      have hat0 := at_getD (0 : Int) (show 0 < ins.length by omega)
      have hat1 := at_getD (0 : Int) (show 1 < ins.length by omega)
      subst h4'
      simp -implicitDefEqProofs (disch := omega) only [go_sem, Nat.sub_zero, List.drop_zero, eq_self, Option.getD_none, Option.getD_some, Option.isSome_none, Option.isSome_some, Option.isNone_none, Option.isNone_some, Bool.or_false, Bool.false_or, Bool.and_false, Bool.false_and, Int.le_refl, Nat.le_refl, List.length_map, List.getElem?_map, Int.natCast_add, Int.natCast_one, List.append_assoc, List.length_append, Nat.add_assoc, and_self, and_true, true_and, and_false, false_and, or_true, true_or, or_false, false_or, not_true_eq_false, not_false_eq_true, Int.cast_ofNat_Int, Int.natCast_nonneg, Int.toNat_natCast, ne_eq, not_true_eq_false, not_false_eq_true, Nat.reduceBEq, Nat.reduceAdd, Nat.reduceSub, Nat.reduceMul, Nat.reduceLeDiff, Nat.reduceEqDiff, Nat.reduceLT, Int.reduceNeg, Int.reduceAdd, Int.reduceSub, Int.reduceMul, Int.reduceLE, Int.reduceLT, Int.reduceEq, Int.reduceToNat, reduceCtorEq, evC_draw, evD95x0, E95x0, hat0, hat1, intC, Int.toNat_zero, Int.toNat_one]
      simp [kindOf]
    · by_cases h3 : py = 3
      · subst h3
        simp -implicitDefEqProofs (disch := omega) only [go_sem, Nat.sub_zero, List.drop_zero, eq_self, Option.getD_none, Option.getD_some, Option.isSome_none, Option.isSome_some, Option.isNone_none, Option.isNone_some, Bool.or_false, Bool.false_or, Bool.and_false, Bool.false_and, Int.le_refl, Nat.le_refl, List.length_map, List.getElem?_map, Int.natCast_add, Int.natCast_one, List.append_assoc, List.length_append, Nat.add_assoc, and_self, and_true, true_and, and_false, false_and, or_true, true_or, or_false, false_or, not_true_eq_false, not_false_eq_true, Int.cast_ofNat_Int, Int.natCast_nonneg, Int.toNat_natCast, ne_eq, not_true_eq_false, not_false_eq_true, Nat.reduceBEq, Nat.reduceAdd, Nat.reduceSub, Nat.reduceMul, Nat.reduceLeDiff, Nat.reduceEqDiff, Nat.reduceLT, Int.reduceNeg, Int.reduceAdd, Int.reduceSub, Int.reduceMul, Int.reduceLE, Int.reduceLT, Int.reduceEq, Int.reduceToNat, reduceCtorEq, hall]
        simp [kindOf]
      · clear ht h4
        simp -implicitDefEqProofs (disch := omega) only [go_sem, Nat.sub_zero, List.drop_zero, eq_self, Option.getD_none, Option.getD_some, Option.isSome_none, Option.isSome_some, Option.isNone_none, Option.isNone_some, Bool.or_false, Bool.false_or, Bool.and_false, Bool.false_and, Int.le_refl, Nat.le_refl, List.length_map, List.getElem?_map, Int.natCast_add, Int.natCast_one, List.append_assoc, List.length_append, Nat.add_assoc, and_self, and_true, true_and, and_false, false_and, or_true, true_or, or_false, false_or, not_true_eq_false, not_false_eq_true, Int.cast_ofNat_Int, Int.natCast_nonneg, Int.toNat_natCast, ne_eq, not_true_eq_false, not_false_eq_true, Nat.reduceBEq, Nat.reduceAdd, Nat.reduceSub, Nat.reduceMul, Nat.reduceLeDiff, Nat.reduceEqDiff, Nat.reduceLT, Int.reduceNeg, Int.reduceAdd, Int.reduceSub, Int.reduceMul, Int.reduceLE, Int.reduceLT, Int.reduceEq, Int.reduceToNat, reduceCtorEq, h2, h4', h3, hall]
        repeat' ((first | rw [GuardI_ndec] | rw [CondC_ndec] | rw [GuardQ_ndec] | rw [GuardI_dec] | rw [CondC_dec] | rw [GuardQ_dec] | rw [GuardI_nby] | rw [CondC_nby] | rw [GuardQ_nby] | rw [GuardQ_by] | rw [GuardI_by] | rw [CondC_by]) <;> split <;> simp -implicitDefEqProofs (disch := omega) only [go_sem, Nat.sub_zero, List.drop_zero, eq_self, Option.getD_none, Option.getD_some, Option.isSome_none, Option.isSome_some, Option.isNone_none, Option.isNone_some, Bool.or_false, Bool.false_or, Bool.and_false, Bool.false_and, Int.le_refl, Nat.le_refl, List.length_map, List.getElem?_map, Int.natCast_add, Int.natCast_one, List.append_assoc, List.length_append, Nat.add_assoc, and_self, and_true, true_and, and_false, false_and, or_true, true_or, or_false, false_or, not_true_eq_false, not_false_eq_true, Int.cast_ofNat_Int, Int.natCast_nonneg, Int.toNat_natCast, ne_eq, not_true_eq_false, not_false_eq_true, Nat.reduceBEq, Nat.reduceAdd, Nat.reduceSub, Nat.reduceMul, Nat.reduceLeDiff, Nat.reduceEqDiff, Nat.reduceLT, Int.reduceNeg, Int.reduceAdd, Int.reduceSub, Int.reduceMul, Int.reduceLE, Int.reduceLT, Int.reduceEq, Int.reduceToNat, reduceCtorEq, hall, h2, h4', h3, *])
        · simp [kindOf, *]
        · subst_vars
          simp [kindOf]
        · simp [kindOf, *]
end Go.Proofs.Ytgepapgabnaonaa.PE
