/- The law of less and of at most. -/
import Derived.Test.YtgepapgabnaonaaPz1
set_option linter.unusedSimpArgs false
set_option linter.unusedVariables false
set_option maxHeartbeats 4000000
namespace Go.Proofs.Ytgepapgabnaonaa.PE
open Go.RowKit

-- find46
theorem run_drawNumbers (d : Nat) (c : Bool) (l : List UInt8) : ∃ (cs : List Col) (row : List Val) (a b : List Prt), retP (runD tab noExt (d + 8)) 46 [.sl c 1 (cellsOfBytes l)] = some [.sl false 2 (cs.map Col.cells), .sl false 3 (row.map Val.cells), .sl false 5 (a.map Prt.cells), .sl false 5 (b.map Prt.cells)] ∧ TwoPost 1 cs row a b := by
  rw [retP, runD_eq find46 _ _ _ (by simp)]
  simp only [go_sem, Nat.sub_zero, List.drop_zero, eq_self, Option.getD_none, Option.getD_some, Option.isSome_none, Option.isSome_some, Option.isNone_none, Option.isNone_some, Bool.or_false, Bool.false_or, Bool.and_false, Bool.false_and, Int.le_refl, Nat.le_refl, List.length_map, List.getElem?_map, Int.natCast_add, Int.natCast_one, List.append_assoc, List.length_append, Nat.add_assoc, and_self, and_true, true_and, and_false, false_and, or_true, true_or, or_false, false_or, not_true_eq_false, not_false_eq_true, Int.cast_ofNat_Int, Int.natCast_nonneg, Int.toNat_natCast, ne_eq, not_true_eq_false, not_false_eq_true, Nat.reduceBEq, Nat.reduceAdd, Nat.reduceSub, Nat.reduceMul, Nat.reduceLeDiff, Nat.reduceEqDiff, Nat.reduceLT, Int.reduceNeg, Int.reduceAdd, Int.reduceSub, Int.reduceMul, Int.reduceLE, Int.reduceLT, Int.reduceEq, Int.reduceToNat, reduceCtorEq]
  generalize hx : callS (runD tab noExt _) _ 63 _ true = X
  obtain ⟨c', bs, rfl, hb⟩ := ex_open hx rfl
  clear hx
  simp only [go_sem, Nat.sub_zero, List.drop_zero, eq_self, Option.getD_none, Option.getD_some, Option.isSome_none, Option.isSome_some, Option.isNone_none, Option.isNone_some, Bool.or_false, Bool.false_or, Bool.and_false, Bool.false_and, Int.le_refl, Nat.le_refl, List.length_map, List.getElem?_map, Int.natCast_add, Int.natCast_one, List.append_assoc, List.length_append, Nat.add_assoc, and_self, and_true, true_and, and_false, false_and, or_true, true_or, or_false, false_or, not_true_eq_false, not_false_eq_true, Int.cast_ofNat_Int, Int.natCast_nonneg, Int.toNat_natCast, ne_eq, not_true_eq_false, not_false_eq_true, Nat.reduceBEq, Nat.reduceAdd, Nat.reduceSub, Nat.reduceMul, Nat.reduceLeDiff, Nat.reduceEqDiff, Nat.reduceLT, Int.reduceNeg, Int.reduceAdd, Int.reduceSub, Int.reduceMul, Int.reduceLE, Int.reduceLT, Int.reduceEq, Int.reduceToNat, reduceCtorEq]
  generalize hx : callS (runD tab noExt _) _ 87 _ false = X
  obtain ⟨cs, p1, rfl, g1, g2, g3, g4, g5⟩ := ex_columnsV (hp := []) (t := []) hx (by omega) (by omega) hb rfl rfl
  clear hx
  simp only [go_sem, Nat.sub_zero, List.drop_zero, eq_self, Option.getD_none, Option.getD_some, Option.isSome_none, Option.isSome_some, Option.isNone_none, Option.isNone_some, Bool.or_false, Bool.false_or, Bool.and_false, Bool.false_and, Int.le_refl, Nat.le_refl, List.length_map, List.getElem?_map, Int.natCast_add, Int.natCast_one, List.append_assoc, List.length_append, Nat.add_assoc, and_self, and_true, true_and, and_false, false_and, or_true, true_or, or_false, false_or, not_true_eq_false, not_false_eq_true, Int.cast_ofNat_Int, Int.natCast_nonneg, Int.toNat_natCast, ne_eq, not_true_eq_false, not_false_eq_true, Nat.reduceBEq, Nat.reduceAdd, Nat.reduceSub, Nat.reduceMul, Nat.reduceLeDiff, Nat.reduceEqDiff, Nat.reduceLT, Int.reduceNeg, Int.reduceAdd, Int.reduceSub, Int.reduceMul, Int.reduceLE, Int.reduceLT, Int.reduceEq, Int.reduceToNat, reduceCtorEq]
  generalize hx : callS (runD tab noExt _) _ 93 _ false = X
  obtain ⟨row, p2, rfl, h1, h2, h3, h4⟩ := ex_fitV (hp := []) (t := []) hx (by omega) (by omega) hb rfl rfl g5
  clear hx
  simp only [go_sem, Nat.sub_zero, List.drop_zero, eq_self, Option.getD_none, Option.getD_some, Option.isSome_none, Option.isSome_some, Option.isNone_none, Option.isNone_some, Bool.or_false, Bool.false_or, Bool.and_false, Bool.false_and, Int.le_refl, Nat.le_refl, List.length_map, List.getElem?_map, Int.natCast_add, Int.natCast_one, List.append_assoc, List.length_append, Nat.add_assoc, and_self, and_true, true_and, and_false, false_and, or_true, true_or, or_false, false_or, not_true_eq_false, not_false_eq_true, Int.cast_ofNat_Int, Int.natCast_nonneg, Int.toNat_natCast, ne_eq, not_true_eq_false, not_false_eq_true, Nat.reduceBEq, Nat.reduceAdd, Nat.reduceSub, Nat.reduceMul, Nat.reduceLeDiff, Nat.reduceEqDiff, Nat.reduceLT, Int.reduceNeg, Int.reduceAdd, Int.reduceSub, Int.reduceMul, Int.reduceLE, Int.reduceLT, Int.reduceEq, Int.reduceToNat, reduceCtorEq]
  generalize hx : callS (runD tab noExt _) _ 88 _ false = X
  obtain ⟨a, p3, e3, i1, i2, i3, i4⟩ := ex_expr (cs := cs) (by omega) 1 (hp := []) (t := []) hx (by omega) (by omega) hb rfl rfl (by decide) (by omega) (by omega) (by omega) (by omega) (by omega)
  subst e3
  clear hx
  simp only [go_sem, Nat.sub_zero, List.drop_zero, eq_self, Option.getD_none, Option.getD_some, Option.isSome_none, Option.isSome_some, Option.isNone_none, Option.isNone_some, Bool.or_false, Bool.false_or, Bool.and_false, Bool.false_and, Int.le_refl, Nat.le_refl, List.length_map, List.getElem?_map, Int.natCast_add, Int.natCast_one, List.append_assoc, List.length_append, Nat.add_assoc, and_self, and_true, true_and, and_false, false_and, or_true, true_or, or_false, false_or, not_true_eq_false, not_false_eq_true, Int.cast_ofNat_Int, Int.natCast_nonneg, Int.toNat_natCast, ne_eq, not_true_eq_false, not_false_eq_true, Nat.reduceBEq, Nat.reduceAdd, Nat.reduceSub, Nat.reduceMul, Nat.reduceLeDiff, Nat.reduceEqDiff, Nat.reduceLT, Int.reduceNeg, Int.reduceAdd, Int.reduceSub, Int.reduceMul, Int.reduceLE, Int.reduceLT, Int.reduceEq, Int.reduceToNat, reduceCtorEq, keptE]
  generalize hx : callS (runD tab noExt _) _ 88 _ false = X
  obtain ⟨b, p4, e4, j1, j2, j3, j4⟩ := ex_expr (cs := cs) (by omega) 1 (hp := []) (t := []) hx (by omega) (by omega) hb rfl rfl (by decide) (by omega) (by omega) (by omega) (by omega) (by omega)
  subst e4
  clear hx
  simp only [go_sem, Nat.sub_zero, List.drop_zero, eq_self, Option.getD_none, Option.getD_some, Option.isSome_none, Option.isSome_some, Option.isNone_none, Option.isNone_some, Bool.or_false, Bool.false_or, Bool.and_false, Bool.false_and, Int.le_refl, Nat.le_refl, List.length_map, List.getElem?_map, Int.natCast_add, Int.natCast_one, List.append_assoc, List.length_append, Nat.add_assoc, and_self, and_true, true_and, and_false, false_and, or_true, true_or, or_false, false_or, not_true_eq_false, not_false_eq_true, Int.cast_ofNat_Int, Int.natCast_nonneg, Int.toNat_natCast, ne_eq, not_true_eq_false, not_false_eq_true, Nat.reduceBEq, Nat.reduceAdd, Nat.reduceSub, Nat.reduceMul, Nat.reduceLeDiff, Nat.reduceEqDiff, Nat.reduceLT, Int.reduceNeg, Int.reduceAdd, Int.reduceSub, Int.reduceMul, Int.reduceLE, Int.reduceLT, Int.reduceEq, Int.reduceToNat, reduceCtorEq, keptE]
  exact ⟨cs, row, a, b, rfl, by omega, g5, h3, i3, j3, by omega, by omega⟩

theorem cmpI_turn (a b : Int) : cmpI a b < 0 ↔ ¬ cmpI b a ≤ 0 := by
  unfold cmpI
  repeat' split
  all_goals omega
theorem cmpS_self (s : ByteArray) : cmpS s s = 0 := by
  unfold cmpS ltS
  simp [List.lt_irrefl]
theorem num_cmp {v w : Val} (hv : v.ok = true) (hw : w.ok = true) (kv : v.kind = 1) (kw : w.kind = 1) : v.cmp w < 0 ↔ ¬ w.cmp v ≤ 0 := by
  obtain ⟨k, n, s⟩ := v
  obtain ⟨k', n', s'⟩ := w
  dsimp only at kv kw
  subst kv kw
  simp [Val.ok] at hv hw
  obtain ⟨rfl, -⟩ := hv
  obtain ⟨rfl, -⟩ := hw
  have h1 := cmpS_self ⟨#[]⟩
  have h2 := cmpI_turn n n'
  have h3 : ∀ x, cmpI x x = 0 := fun x => by unfold cmpI; simp
  have h4 : cmpI n n' = 0 ↔ n = n' := by unfold cmpI; repeat' split <;> omega
  have h5 : cmpI n' n = 0 ↔ n' = n := by unfold cmpI; repeat' split <;> omega
  unfold Val.cmp
  dsimp only
  rw [h3, h1]
  by_cases e : n = n'
  · subst e
    simp [h3]
  · have e' : ¬ n' = n := fun h => e h.symm
    have e1 : ¬ cmpI n n' = 0 := fun h => e (h4.1 h)
    have e2 : ¬ cmpI n' n = 0 := fun h => e' (h5.1 h)
    simp only [ne_eq, not_true_eq_false, if_false, e1, e2, not_false_eq_true, if_true]
    exact h2
theorem cells_scalar (v : Val) : v.cells.all scalar = true := rfl
theorem less_val {v w : Val} (hv : TyOk 1 v) (hw : TyOk 1 w) : (cmpV 3 v w = 0 ∨ cmpV 3 v w = 1 ∨ cmpV 3 v w = 2) ∧ (cmpV 4 w v = 0 ∨ cmpV 4 w v = 1 ∨ cmpV 4 w v = 2) ∧ cmpV 3 v w = notT (cmpV 4 w v) := by
  obtain ⟨h1, h2⟩ := hv
  obtain ⟨h3, h4⟩ := hw
  rcases h2 with h2 | h2 <;> rcases h4 with h4 | h4
  · have := num_cmp h1 h3 h2 h4
    by_cases hc : w.cmp v ≤ 0
    · have hd : ¬ v.cmp w < 0 := fun h => this.mp h hc
      simp [cmpV, cmpT, h1, h3, h2, h4, hc, hd, notT]
    · have hd : v.cmp w < 0 := this.mpr hc
      simp [cmpV, cmpT, h1, h3, h2, h4, hc, hd, notT]
  all_goals simp [cmpV, cmpT, h1, h3, h2, h4, notT]
theorem less {cs : List Col} {row : List Val} {a b : List Prt} (hf : fitsRow cs row = true) (ha : Puts cs 1 a) (hb : Puts cs 1 b) (hl : a.length + b.length ≤ 10) : exprVal cs row (a ++ b ++ [z3 4 3]) = exprVal cs row (withP (b ++ a ++ [z3 4 4]) [] 7) := by
  obtain ⟨v, v1, v2⟩ := puts_val hf ha
  obtain ⟨w, w1, w2⟩ := puts_val hf hb
  have h1 : Has cs row 1 a v := ⟨ha, v1, v2⟩
  have h2 : Has cs row 1 b w := ⟨hb, w1, w2⟩
  obtain ⟨i1, i2, i3⟩ := less_val v1 w1
  have e1 : Has cs row 3 (a ++ b ++ [z3 4 3]) (valT (cmpV 3 v w)) := Has.two (k := 4) (n := 3) h1 h2 (.inr (.inl rfl)) rfl rfl (valT_ty _)
  have e2 : Has cs row 3 (b ++ a ++ [z3 4 4]) (valT (cmpV 4 w v)) := Has.two (k := 4) (n := 4) h2 h1 (.inr (.inl rfl)) rfl rfl (valT_ty _)
  rw [e1.val hf (by simp; omega) (by decide), e2.not.val hf (by simp [withP]; omega) (by decide), truth_val i2, i3]
theorem run_withNone' (d : Nat) (c c' : Bool) (a : List Prt) (k : Int) (ha : a.length ≤ 100000) : retP (runD tab noExt (d + 1)) 45 [.sl c 5 (a.map Prt.cells), .sl c' 5 [], .int .i64 k] = some [.sl false 5 ((withP a [] k).map Prt.cells)] := run_withParts d c c' a [] k ha (by simp)
-- find45
theorem keep_with0 (d : Nat) (h : Heap) (c c' : Bool) (a b : List Prt) (ha : a.length ≤ 100000) (hb : b.length ≤ 100000) : callP (runD tab noExt (d + 1)) h 45 [.sl c 5 (a.map Prt.cells), .sl c' 5 (b.map Prt.cells), .int .i64 0] true = some (.ref h.length 0 0 (a.length + b.length) false, h ++ [.rows 0 5 (a.map Prt.cells ++ b.map Prt.cells)]) := by
  have h1 : 0 + a.length < 4294967296 := by omega
  have h1' : a.length < 4294967296 := by omega
  have h2 : a.length + b.length < 4294967296 := by omega
  unfold callP
  rw [show pureAs h [V.sl c 5 (a.map Prt.cells), .sl c' 5 (b.map Prt.cells), .int .i64 0] = some [V.sl c 5 (a.map Prt.cells), .sl c' 5 (b.map Prt.cells), .int .i64 0] from rfl]
  simp only []
  rw [runD_eq find45 _ _ _ (by simp)]
  simp (disch := omega) only [go_sem, Nat.sub_zero, List.drop_zero, eq_self, Option.getD_none, Option.getD_some, Option.isSome_none, Option.isSome_some, Option.isNone_none, Option.isNone_some, Bool.or_false, Bool.false_or, Bool.and_false, Bool.false_and, Int.le_refl, Nat.le_refl, List.length_map, List.getElem?_map, Int.natCast_add, Int.natCast_one, List.append_assoc, List.length_append, Nat.add_assoc, and_self, and_true, true_and, and_false, false_and, or_true, true_or, or_false, false_or, not_true_eq_false, not_false_eq_true, Int.cast_ofNat_Int, Int.natCast_nonneg, Int.toNat_natCast, ne_eq, not_true_eq_false, not_false_eq_true, Nat.reduceBEq, Nat.reduceAdd, Nat.reduceSub, Nat.reduceMul, Nat.reduceLeDiff, Nat.reduceEqDiff, Nat.reduceLT, Int.reduceNeg, Int.reduceAdd, Int.reduceSub, Int.reduceMul, Int.reduceLE, Int.reduceLT, Int.reduceEq, Int.reduceToNat, reduceCtorEq, h1, h1', h2]
  try simp [List.take_of_length_le]
theorem snoc_z3 (l : List Prt) (k n : Int) (len : Nat) : (.sl false 5 (List.take len (l.map Prt.cells ++ [[.int .i64 k, .int .i64 n, .int .i64 0, .int .i64 0, .str ⟨#[]⟩]])) : V) = .sl false 5 (List.take len ((l ++ [z3 k n]).map Prt.cells)) := by simp [Prt.cells, z3, Val.zero]
theorem withP_zero (a b : List Prt) : withP a b 0 = a ++ b := rfl
-- find8
theorem law_Less (l : List UInt8) (hl : l.length ≤ maxLen) : ∃ d h1, runD tab noExt d 8 [.sl false 1 (cellsOfBytes l)] [] = some ([.bool true], h1) := by
  refine ⟨12, ?_⟩
  rw [runD_eq find8 _ _ _ (by simp)]
  obtain ⟨cs, row, a, b, hd, hc, hco, hf, ha, hb, la, lb⟩ := run_drawNumbers 3 false l
  have hrl : row.length = cs.length := by simp only [fitsRow, Bool.and_eq_true, decide_eq_true_eq, beq_iff_eq] at hf; omega
  by_cases h1 : (1048576 : Int) < l.length
  · simp only [go_sem, Nat.sub_zero, List.drop_zero, eq_self, Option.getD_none, Option.getD_some, Option.isSome_none, Option.isSome_some, Option.isNone_none, Option.isNone_some, Bool.or_false, Bool.false_or, Bool.and_false, Bool.false_and, Int.le_refl, Nat.le_refl, List.length_map, List.getElem?_map, Int.natCast_add, Int.natCast_one, List.append_assoc, List.length_append, Nat.add_assoc, and_self, and_true, true_and, and_false, false_and, or_true, true_or, or_false, false_or, not_true_eq_false, not_false_eq_true, Int.cast_ofNat_Int, Int.natCast_nonneg, Int.toNat_natCast, ne_eq, not_true_eq_false, not_false_eq_true, Nat.reduceBEq, Nat.reduceAdd, Nat.reduceSub, Nat.reduceMul, Nat.reduceLeDiff, Nat.reduceEqDiff, Nat.reduceLT, Int.reduceNeg, Int.reduceAdd, Int.reduceSub, Int.reduceMul, Int.reduceLE, Int.reduceLT, Int.reduceEq, Int.reduceToNat, reduceCtorEq, ofBytes_len, h1]
    exact ⟨_, rfl⟩
  · have hal := run_alive 6
    have sa := ha.short
    have s1 : a.length + (b.length + 1) < 4294967296 := by omega
    have s2 : b.length + (a.length + 1) < 4294967296 := by omega
    simp (disch := first | omega | assumption) only [go_sem, Nat.sub_zero, List.drop_zero, eq_self, Option.getD_none, Option.getD_some, Option.isSome_none, Option.isSome_some, Option.isNone_none, Option.isNone_some, Bool.or_false, Bool.false_or, Bool.and_false, Bool.false_and, Int.le_refl, Nat.le_refl, List.length_map, List.getElem?_map, Int.natCast_add, Int.natCast_one, List.append_assoc, List.length_append, Nat.add_assoc, and_self, and_true, true_and, and_false, false_and, or_true, true_or, or_false, false_or, not_true_eq_false, not_false_eq_true, Int.cast_ofNat_Int, Int.natCast_nonneg, Int.toNat_natCast, ne_eq, not_true_eq_false, not_false_eq_true, Nat.reduceBEq, Nat.reduceAdd, Nat.reduceSub, Nat.reduceMul, Nat.reduceLeDiff, Nat.reduceEqDiff, Nat.reduceLT, Int.reduceNeg, Int.reduceAdd, Int.reduceSub, Int.reduceMul, Int.reduceLE, Int.reduceLT, Int.reduceEq, Int.reduceToNat, reduceCtorEq, ofBytes_len, h1, hd, run_exprKindI, run_exprKindR, run_withParts, run_withNone', run_exprValueI, hal, withP_zero, keep_with0, Prt.cells, s1, s2, IntWalk.i64_in]
    by_cases hg : (12 : Int) < (b.length : Int) + ((a.length : Int) + 1) + 1
    · simp (disch := first | omega | assumption) only [go_sem, Nat.sub_zero, List.drop_zero, eq_self, Option.getD_none, Option.getD_some, Option.isSome_none, Option.isSome_some, Option.isNone_none, Option.isNone_some, Bool.or_false, Bool.false_or, Bool.and_false, Bool.false_and, Int.le_refl, Nat.le_refl, List.length_map, List.getElem?_map, Int.natCast_add, Int.natCast_one, List.append_assoc, List.length_append, Nat.add_assoc, and_self, and_true, true_and, and_false, false_and, or_true, true_or, or_false, false_or, not_true_eq_false, not_false_eq_true, Int.cast_ofNat_Int, Int.natCast_nonneg, Int.toNat_natCast, ne_eq, not_true_eq_false, not_false_eq_true, Nat.reduceBEq, Nat.reduceAdd, Nat.reduceSub, Nat.reduceMul, Nat.reduceLeDiff, Nat.reduceEqDiff, Nat.reduceLT, Int.reduceNeg, Int.reduceAdd, Int.reduceSub, Int.reduceMul, Int.reduceLE, Int.reduceLT, Int.reduceEq, Int.reduceToNat, reduceCtorEq, hg, hal]
      exact ⟨_, rfl⟩
    · have hv := less (cs := cs) (row := row) (a := a) (b := b) hf ha hb (by omega)
      obtain ⟨X, hX⟩ : ∃ X, X = a ++ b ++ [z3 4 3] := ⟨_, rfl⟩
      obtain ⟨Y, hY⟩ : ∃ Y, Y = b ++ a ++ [z3 4 4] := ⟨_, rfl⟩
      rw [← hX, ← hY] at hv
      have x1 : a.map Prt.cells ++ (b.map Prt.cells ++ [[V.int .i64 4, .int .i64 3, .int .i64 0, .int .i64 0, .str ⟨#[]⟩]]) = X.map Prt.cells := by rw [hX]; simp [Prt.cells, z3, Val.zero]
      have y1 : b.map Prt.cells ++ (a.map Prt.cells ++ [[V.int .i64 4, .int .i64 4, .int .i64 0, .int .i64 0, .str ⟨#[]⟩]]) = Y.map Prt.cells := by rw [hY]; simp [Prt.cells, z3, Val.zero]
      have x2 : List.take (a.length + (b.length + 1)) (X.map Prt.cells) = X.map Prt.cells := List.take_of_length_le (by rw [hX]; simp <;> omega)
      have y2 : List.take (b.length + (a.length + 1)) (Y.map Prt.cells) = Y.map Prt.cells := List.take_of_length_le (by rw [hY]; simp <;> omega)
      have ly : Y.length ≤ 100000 := by rw [hY]; simp; omega
      simp (disch := first | omega | assumption) only [go_sem, Nat.sub_zero, List.drop_zero, eq_self, Option.getD_none, Option.getD_some, Option.isSome_none, Option.isSome_some, Option.isNone_none, Option.isNone_some, Bool.or_false, Bool.false_or, Bool.and_false, Bool.false_and, Int.le_refl, Nat.le_refl, List.length_map, List.getElem?_map, Int.natCast_add, Int.natCast_one, List.append_assoc, List.length_append, Nat.add_assoc, and_self, and_true, true_and, and_false, false_and, or_true, true_or, or_false, false_or, not_true_eq_false, not_false_eq_true, Int.cast_ofNat_Int, Int.natCast_nonneg, Int.toNat_natCast, ne_eq, not_true_eq_false, not_false_eq_true, Nat.reduceBEq, Nat.reduceAdd, Nat.reduceSub, Nat.reduceMul, Nat.reduceLeDiff, Nat.reduceEqDiff, Nat.reduceLT, Int.reduceNeg, Int.reduceAdd, Int.reduceSub, Int.reduceMul, Int.reduceLE, Int.reduceLT, Int.reduceEq, Int.reduceToNat, reduceCtorEq, hg, hal, x1, y1, x2, y2, cells_scalar, run_withNone', run_exprValueI, IntWalk.i64_in, hv, eq_vals, Option.map_some, decide_true]
      exact ⟨_, rfl⟩
end Go.Proofs.Ytgepapgabnaonaa.PE
