/- Two lists that are drawn. -/
import Derived.Test.YtgepapgabnaonaaPq5
import Derived.Test.YtgepapgabnaonaaPr3
set_option linter.unusedSimpArgs false
set_option linter.unusedVariables false
set_option maxHeartbeats 4000000
namespace Go.Proofs.Ytgepapgabnaonaa.PE
open Go.RowKit

-- find87
theorem exk_columnsV {d : Nat} {hp t : Heap} {c : Bool} {bs : List UInt8} {p : Int} {X : Option (V × Heap)} (hx : callS (runD tab noExt (d + 3)) (hp ++ .box [.sl c 1 (cellsOfBytes bs), .int .i64 (p)] :: t) 87 [.ptr hp.length 0 0 0, .int .i64 0] true = X)
    (hp0 : 0 ≤ p) (hq : p ≤ 1099510000000) (hb : bs.length ≤ 2000) (hhp : plainH hp = true) (ht : plainH t = true) :
    ∃ (cs : List Col) (p' : Int) (st : Nat), X = some (.ref (hp.length + (t.length + 1)) st 0 cs.length false, hp ++ .box [.sl c 1 (cellsOfBytes bs), .int .i64 (p')] :: (t ++ [.rows st 2 (cs.map Col.cells)])) ∧ p ≤ p' ∧ p' ≤ p + 10 ∧ 1 ≤ cs.length ∧ cs.length ≤ 3 ∧ colsOk cs = true := by
  subst hx
  have hh : ∀ n, t.all (hiB n) = true := fun n => plainH_hi ht n
  have hhq : ∀ n, hp.all (hiB n) = true := fun n => plainH_hi hhp n
  rw [callS_eq, runD_eq find87 _ _ _ (by simp)]
  simp -implicitDefEqProofs only [go_sem, Nat.sub_zero, List.drop_zero, eq_self, Option.getD_none, Option.getD_some, Option.isSome_none, Option.isSome_some, Option.isNone_none, Option.isNone_some, Bool.or_false, Bool.false_or, Bool.and_false, Bool.false_and, Int.le_refl, Nat.le_refl, List.length_map, List.getElem?_map, Int.natCast_add, Int.natCast_one, List.append_assoc, List.length_append, Nat.add_assoc, and_self, and_true, true_and, and_false, false_and, or_true, true_or, or_false, false_or, not_true_eq_false, not_false_eq_true, Int.cast_ofNat_Int, Int.natCast_nonneg, Int.toNat_natCast, ne_eq, not_true_eq_false, not_false_eq_true, Nat.reduceBEq, Nat.reduceAdd, Nat.reduceSub, Nat.reduceMul, Nat.reduceLeDiff, Nat.reduceEqDiff, Nat.reduceLT, Int.reduceNeg, Int.reduceAdd, Int.reduceSub, Int.reduceMul, Int.reduceLE, Int.reduceLT, Int.reduceEq, Int.reduceToNat, reduceCtorEq, hh, hhq, List.all_append]
  generalize hx : callS (runD tab noExt _) _ 65 _ _ = X
  obtain ⟨m, rfl, hm1, hm2⟩ := ex_pick hx (by omega) (by omega) hb hhp (by simp only [ht, plainH_nil, plainH_cons, plainH_append, plainB, List.all_cons, List.all_nil, Bool.and_self, Bool.and_true])
  clear hx
  simp -implicitDefEqProofs (disch := omega) only [go_sem, Nat.sub_zero, List.drop_zero, eq_self, Option.getD_none, Option.getD_some, Option.isSome_none, Option.isSome_some, Option.isNone_none, Option.isNone_some, Bool.or_false, Bool.false_or, Bool.and_false, Bool.false_and, Int.le_refl, Nat.le_refl, List.length_map, List.getElem?_map, Int.natCast_add, Int.natCast_one, List.append_assoc, List.length_append, Nat.add_assoc, and_self, and_true, true_and, and_false, false_and, or_true, true_or, or_false, false_or, not_true_eq_false, not_false_eq_true, Int.cast_ofNat_Int, Int.natCast_nonneg, Int.toNat_natCast, ne_eq, not_true_eq_false, not_false_eq_true, Nat.reduceBEq, Nat.reduceAdd, Nat.reduceSub, Nat.reduceMul, Nat.reduceLeDiff, Nat.reduceEqDiff, Nat.reduceLT, Int.reduceNeg, Int.reduceAdd, Int.reduceSub, Int.reduceMul, Int.reduceLE, Int.reduceLT, Int.reduceEq, Int.reduceToNat, reduceCtorEq, IntWalk.i64_in, hh, hhq, List.all_append]
  generalize hx : LoopS _ _ _ _ _ _ _ _ _ = Y
  obtain ⟨cont, st, p1, rfl, h1, h2, h3, h4⟩ := loop_columnsV hb hhp ht (1 + m).toNat _ hx (by omega) (by omega) rfl (by simp; omega) AllP.nil (by omega) (by omega)
  clear hx
  simp only [List.length_nil, Nat.zero_add] at h2
  have h2a : 1 ≤ cont.length := by omega
  have h2b : cont.length ≤ 3 := by omega
  have h4' : p1 ≤ p + 7 := by omega
  clear h2 h4
  have h5 : cont.length + 3 < 4294967296 := by omega
  obtain ⟨cs, hcs, hok⟩ := colsV_of h1
  have hl := congrArg List.length hcs
  simp at hl
  simp -implicitDefEqProofs (disch := omega) only [go_sem, Nat.sub_zero, List.drop_zero, eq_self, Option.getD_none, Option.getD_some, Option.isSome_none, Option.isSome_some, Option.isNone_none, Option.isNone_some, Bool.or_false, Bool.false_or, Bool.and_false, Bool.false_and, Int.le_refl, Nat.le_refl, List.length_map, List.getElem?_map, Int.natCast_add, Int.natCast_one, List.append_assoc, List.length_append, Nat.add_assoc, and_self, and_true, true_and, and_false, false_and, or_true, true_or, or_false, false_or, not_true_eq_false, not_false_eq_true, Int.cast_ofNat_Int, Int.natCast_nonneg, Int.toNat_natCast, ne_eq, not_true_eq_false, not_false_eq_true, Nat.reduceBEq, Nat.reduceAdd, Nat.reduceSub, Nat.reduceMul, Nat.reduceLeDiff, Nat.reduceEqDiff, Nat.reduceLT, Int.reduceNeg, Int.reduceAdd, Int.reduceSub, Int.reduceMul, Int.reduceLE, Int.reduceLT, Int.reduceEq, Int.reduceToNat, reduceCtorEq, hh, hhq, List.all_append]
  generalize hx : callS (runD tab noExt _) (_ ++ _ :: _) 134 _ _ = X
  obtain ⟨b, p2, rfl, o1, o2, o3⟩ := ex_odd hx (by omega) (by omega) hb hhp (by simp only [ht, plainH_nil, plainH_cons, plainH_append, plainB, List.all_cons, List.all_nil, Bool.and_self, Bool.and_true])
  obtain rfl := o3 (by omega)
  clear hx
  simp -implicitDefEqProofs (disch := omega) only [go_sem, Nat.sub_zero, List.drop_zero, eq_self, Option.getD_none, Option.getD_some, Option.isSome_none, Option.isSome_some, Option.isNone_none, Option.isNone_some, Bool.or_false, Bool.false_or, Bool.and_false, Bool.false_and, Int.le_refl, Nat.le_refl, List.length_map, List.getElem?_map, Int.natCast_add, Int.natCast_one, List.append_assoc, List.length_append, Nat.add_assoc, and_self, and_true, true_and, and_false, false_and, or_true, true_or, or_false, false_or, not_true_eq_false, not_false_eq_true, Int.cast_ofNat_Int, Int.natCast_nonneg, Int.toNat_natCast, ne_eq, not_true_eq_false, not_false_eq_true, Nat.reduceBEq, Nat.reduceAdd, Nat.reduceSub, Nat.reduceMul, Nat.reduceLeDiff, Nat.reduceEqDiff, Nat.reduceLT, Int.reduceNeg, Int.reduceAdd, Int.reduceSub, Int.reduceMul, Int.reduceLE, Int.reduceLT, Int.reduceEq, Int.reduceToNat, reduceCtorEq, IntWalk.i64_in, hh, hhq, List.all_append]
  subst hcs
  rw [List.length_map]
  simp only [List.length_map] at h2a h2b
  exact ⟨cs, p2, 0, rfl, by omega, by omega, h2a, h2b, by simp only [colsOk, hok, Bool.true_and, decide_eq_true_eq]; omega⟩

theorem take_mapG {α β : Type} (f : α → β) (n : Nat) (l : List α) : (l.map f).take n = (l.take n).map f := (List.map_take).symm
theorem set_cols (cs : List Col) (j : Nat) (k : Int) (e : Bool) : (cs.map Col.cells).set j [.int .i64 k, .bool e] = (cs.set j ⟨k, e⟩).map Col.cells := by
  rw [List.map_set]; rfl
theorem one_rem {m n : Int} (h1 : 0 ≤ m) (h2 : m ≤ 1) (h3 : 1 ≤ n) : 0 ≤ m.tmod n ∧ m.tmod n < n ∧ m.tmod n ≤ 1 := by
  have h4 := Int.tmod_nonneg n h1
  have h5 := Int.tmod_lt_of_pos m (show 0 < n by omega)
  refine ⟨h4, h5, ?_⟩
  by_cases hn : n = 1
  · omega
  · rw [Int.tmod_eq_of_lt h1 (by omega)]; exact h2
def PairPost (n : Int) (ca cb : List Col) (a b : List Row) (i j : Int) : Prop := ca.length ≤ 2 ∧ cb.length ≤ 2 ∧ a.length ≤ 12 ∧ b.length ≤ 7 ∧ (∀ r ∈ a, GR r.vs) ∧ (∀ r ∈ b, GR r.vs)
-- find98
theorem ex_pair {d : Nat} {hp t : Heap} {c : Bool} {bs : List UInt8} {p n : Int} {X : Option (V × Heap)} (hx : callS (runD tab noExt (d + 6)) (hp ++ .box [.sl c 1 (cellsOfBytes bs), .int .i64 (p)] :: t) 98 [.ptr hp.length 0 0 0, .int .i64 n] false = X)
    (hp0 : 0 ≤ p) (hq : p ≤ 1099200000000) (hb : bs.length ≤ 2000) (hhp : plainH hp = true) (ht : plainH t = true) :
    ∃ (ca cb : List Col) (a b : List Row) (i j p' : Int), X = some (.tup [.sl false 2 (ca.map Col.cells), .sl false 2 (cb.map Col.cells), .sl false 1 (a.map Row.cells), .sl false 1 (b.map Row.cells), .int .i64 i, .int .i64 j], hp ++ .box [.sl c 1 (cellsOfBytes bs), .int .i64 (p')] :: t) ∧ p ≤ p' ∧ PairPost n ca cb a b i j := by
  subst hx
  have hh : ∀ n, t.all (hiB n) = true := fun n => plainH_hi ht n
  have hhq : ∀ n, hp.all (hiB n) = true := fun n => plainH_hi hhp n
  rw [callS_eq, runD_eq find98 _ _ _ (by simp)]
  simp -implicitDefEqProofs (disch := omega) only [go_sem, Nat.sub_zero, List.drop_zero, eq_self, Option.getD_none, Option.getD_some, Option.isSome_none, Option.isSome_some, Option.isNone_none, Option.isNone_some, Bool.or_false, Bool.false_or, Bool.and_false, Bool.false_and, Int.le_refl, Nat.le_refl, List.length_map, List.getElem?_map, Int.natCast_add, Int.natCast_one, List.append_assoc, List.length_append, Nat.add_assoc, and_self, and_true, true_and, and_false, false_and, or_true, true_or, or_false, false_or, not_true_eq_false, not_false_eq_true, Int.cast_ofNat_Int, Int.natCast_nonneg, Int.toNat_natCast, ne_eq, not_true_eq_false, not_false_eq_true, Nat.reduceBEq, Nat.reduceAdd, Nat.reduceSub, Nat.reduceMul, Nat.reduceLeDiff, Nat.reduceEqDiff, Nat.reduceLT, Int.reduceNeg, Int.reduceAdd, Int.reduceSub, Int.reduceMul, Int.reduceLE, Int.reduceLT, Int.reduceEq, Int.reduceToNat, reduceCtorEq, hh, hhq, List.all_append]
  generalize hx : callS (runD tab noExt _) _ 87 _ false = X
  obtain ⟨ca, p1, rfl, g1, g2, g3, g4, g5⟩ := ex_columnsV hx (by omega) (by omega) hb hhp (by simp only [ht, plainH_nil, plainH_cons, plainH_append, plainB, List.all_cons, List.all_nil, Bool.and_self, Bool.and_true])
  clear hx
  simp -implicitDefEqProofs (disch := omega) only [go_sem, Nat.sub_zero, List.drop_zero, eq_self, Option.getD_none, Option.getD_some, Option.isSome_none, Option.isSome_some, Option.isNone_none, Option.isNone_some, Bool.or_false, Bool.false_or, Bool.and_false, Bool.false_and, Int.le_refl, Nat.le_refl, List.length_map, List.getElem?_map, Int.natCast_add, Int.natCast_one, List.append_assoc, List.length_append, Nat.add_assoc, and_self, and_true, true_and, and_false, false_and, or_true, true_or, or_false, false_or, not_true_eq_false, not_false_eq_true, Int.cast_ofNat_Int, Int.natCast_nonneg, Int.toNat_natCast, ne_eq, not_true_eq_false, not_false_eq_true, Nat.reduceBEq, Nat.reduceAdd, Nat.reduceSub, Nat.reduceMul, Nat.reduceLeDiff, Nat.reduceEqDiff, Nat.reduceLT, Int.reduceNeg, Int.reduceAdd, Int.reduceSub, Int.reduceMul, Int.reduceLE, Int.reduceLT, Int.reduceEq, Int.reduceToNat, reduceCtorEq, IntWalk.i64_in, hh, hhq, List.all_append]
  generalize hx : callS (runD tab noExt _) (_ ++ _ :: _) 65 _ false = X
  obtain ⟨m1, rfl, hm1, hm2⟩ := ex_pick hx (by omega) (by omega) hb hhp (by simp only [ht, plainH_nil, plainH_cons, plainH_append, plainB, List.all_cons, List.all_nil, Bool.and_self, Bool.and_true])
  clear hx
  obtain ⟨r1, r2, r3⟩ := one_rem (n := (ca.length : Int)) hm1 (by omega) (by omega)
  have r0 : ((ca.length : Int) = 0) = False := eq_false (by omega)
  have rw0 : 0 ≤ 1 + m1.tmod (ca.length : Int) := by omega
  have rw1 : 1 + m1.tmod (ca.length : Int) ≤ (ca.length : Int) := by omega
  simp -implicitDefEqProofs (disch := omega) only [go_sem, Nat.sub_zero, List.drop_zero, eq_self, Option.getD_none, Option.getD_some, Option.isSome_none, Option.isSome_some, Option.isNone_none, Option.isNone_some, Bool.or_false, Bool.false_or, Bool.and_false, Bool.false_and, Int.le_refl, Nat.le_refl, List.length_map, List.getElem?_map, Int.natCast_add, Int.natCast_one, List.append_assoc, List.length_append, Nat.add_assoc, and_self, and_true, true_and, and_false, false_and, or_true, true_or, or_false, false_or, not_true_eq_false, not_false_eq_true, Int.cast_ofNat_Int, Int.natCast_nonneg, Int.toNat_natCast, ne_eq, not_true_eq_false, not_false_eq_true, Nat.reduceBEq, Nat.reduceAdd, Nat.reduceSub, Nat.reduceMul, Nat.reduceLeDiff, Nat.reduceEqDiff, Nat.reduceLT, Int.reduceNeg, Int.reduceAdd, Int.reduceSub, Int.reduceMul, Int.reduceLE, Int.reduceLT, Int.reduceEq, Int.reduceToNat, reduceCtorEq, IntWalk.i64_in, hh, hhq, List.all_append, r0, rw0, rw1, r1, take_mapG]
  generalize hx : callS (runD tab noExt _) (_ ++ _ :: _) 87 _ true = X
  obtain ⟨cb, p2, st, rfl, k1, k2, k3, k4, k5⟩ := exk_columnsV hx (by omega) (by omega) hb hhp (by simp only [ht, plainH_nil, plainH_cons, plainH_append, plainB, List.all_cons, List.all_nil, Bool.and_self, Bool.and_true])
  clear hx
  simp -implicitDefEqProofs (disch := omega) only [go_sem, Nat.sub_zero, List.drop_zero, eq_self, Option.getD_none, Option.getD_some, Option.isSome_none, Option.isSome_some, Option.isNone_none, Option.isNone_some, Bool.or_false, Bool.false_or, Bool.and_false, Bool.false_and, Int.le_refl, Nat.le_refl, List.length_map, List.getElem?_map, Int.natCast_add, Int.natCast_one, List.append_assoc, List.length_append, Nat.add_assoc, and_self, and_true, true_and, and_false, false_and, or_true, true_or, or_false, false_or, not_true_eq_false, not_false_eq_true, Int.cast_ofNat_Int, Int.natCast_nonneg, Int.toNat_natCast, ne_eq, not_true_eq_false, not_false_eq_true, Nat.reduceBEq, Nat.reduceAdd, Nat.reduceSub, Nat.reduceMul, Nat.reduceLeDiff, Nat.reduceEqDiff, Nat.reduceLT, Int.reduceNeg, Int.reduceAdd, Int.reduceSub, Int.reduceMul, Int.reduceLE, Int.reduceLT, Int.reduceEq, Int.reduceToNat, reduceCtorEq, IntWalk.i64_in, hh, hhq, List.all_append]
  generalize hx : callS (runD tab noExt _) (_ ++ _ :: _) 65 _ false = X
  obtain ⟨m2, rfl, hm3, hm4⟩ := ex_pick hx (by omega) (by omega) hb hhp (by simp only [ht, plainH_nil, plainH_cons, plainH_append, plainB, List.all_cons, List.all_nil, Bool.and_self, Bool.and_true])
  clear hx
  obtain ⟨s1, s2, s3⟩ := one_rem (n := (cb.length : Int)) hm3 (by omega) (by omega)
  have s0 : ((cb.length : Int) = 0) = False := eq_false (by omega)
  have sw0 : 0 ≤ 1 + m2.tmod (cb.length : Int) := by omega
  have sw1 : 1 + m2.tmod (cb.length : Int) ≤ (cb.length : Int) := by omega
  obtain ⟨ca', hca⟩ : ∃ ca', ca' = ca.take (1 + m1.tmod (ca.length : Int)).toNat := ⟨_, rfl⟩
  have la : 1 ≤ ca'.length ∧ ca'.length ≤ 2 := by rw [hca, List.length_take]; omega
  rw [← hca]
  obtain ⟨la1, la2⟩ := la
  clear hca r1 r2 r3 r0 rw0 rw1 hm1 hm2
  simp -implicitDefEqProofs (disch := omega) only [go_sem, Nat.sub_zero, List.drop_zero, eq_self, Option.getD_none, Option.getD_some, Option.isSome_none, Option.isSome_some, Option.isNone_none, Option.isNone_some, Bool.or_false, Bool.false_or, Bool.and_false, Bool.false_and, Int.le_refl, Nat.le_refl, List.length_map, List.getElem?_map, Int.natCast_add, Int.natCast_one, List.append_assoc, List.length_append, Nat.add_assoc, and_self, and_true, true_and, and_false, false_and, or_true, true_or, or_false, false_or, not_true_eq_false, not_false_eq_true, Int.cast_ofNat_Int, Int.natCast_nonneg, Int.toNat_natCast, ne_eq, not_true_eq_false, not_false_eq_true, Nat.reduceBEq, Nat.reduceAdd, Nat.reduceSub, Nat.reduceMul, Nat.reduceLeDiff, Nat.reduceEqDiff, Nat.reduceLT, Int.reduceNeg, Int.reduceAdd, Int.reduceSub, Int.reduceMul, Int.reduceLE, Int.reduceLT, Int.reduceEq, Int.reduceToNat, reduceCtorEq, IntWalk.i64_in, hh, hhq, List.all_append, s0, sw0, sw1, s1]
  obtain ⟨n', hn'⟩ : ∃ n', n' = (1 + m2.tmod (cb.length : Int)).toNat := ⟨_, rfl⟩
  have ln : 1 ≤ n' ∧ n' ≤ 2 ∧ n' ≤ cb.length := by rw [hn']; omega
  rw [← hn']
  obtain ⟨ln1, ln2, ln3⟩ := ln
  clear hn' s1 s2 s3 s0 sw0 sw1 hm3 hm4
  generalize hx : callS (runD tab noExt _) (_ ++ _ :: _) 65 _ false = X
  obtain ⟨i, rfl, hi1, hi2⟩ := ex_pick hx (by omega) (by omega) hb hhp (by simp only [ht, plainH_nil, plainH_cons, plainH_append, plainB, List.all_cons, List.all_nil, Bool.and_self, Bool.and_true])
  clear hx
  simp -implicitDefEqProofs (disch := omega) only [go_sem, Nat.sub_zero, List.drop_zero, eq_self, Option.getD_none, Option.getD_some, Option.isSome_none, Option.isSome_some, Option.isNone_none, Option.isNone_some, Bool.or_false, Bool.false_or, Bool.and_false, Bool.false_and, Int.le_refl, Nat.le_refl, List.length_map, List.getElem?_map, Int.natCast_add, Int.natCast_one, List.append_assoc, List.length_append, Nat.add_assoc, and_self, and_true, true_and, and_false, false_and, or_true, true_or, or_false, false_or, not_true_eq_false, not_false_eq_true, Int.cast_ofNat_Int, Int.natCast_nonneg, Int.toNat_natCast, ne_eq, not_true_eq_false, not_false_eq_true, Nat.reduceBEq, Nat.reduceAdd, Nat.reduceSub, Nat.reduceMul, Nat.reduceLeDiff, Nat.reduceEqDiff, Nat.reduceLT, Int.reduceNeg, Int.reduceAdd, Int.reduceSub, Int.reduceMul, Int.reduceLE, Int.reduceLT, Int.reduceEq, Int.reduceToNat, reduceCtorEq, IntWalk.i64_in, hh, hhq, List.all_append]
  generalize hx : callS (runD tab noExt _) (_ ++ _ :: _) 65 _ false = X
  obtain ⟨j, rfl, hj1, hj2⟩ := ex_pick hx (by omega) (by omega) hb hhp (by simp only [ht, plainH_nil, plainH_cons, plainH_append, plainB, List.all_cons, List.all_nil, Bool.and_self, Bool.and_true])
  clear hx
  have a1 := at_getD (⟨0, false⟩ : Col) (show i.toNat < ca'.length by omega)
  have a2 := at_getD (⟨0, false⟩ : Col) (show j.toNat < cb.length by omega)
  have j2 : j < (n' : Int) := by omega
  have j3 : j.toNat < n' := by omega
  simp -implicitDefEqProofs (disch := first | omega | assumption) only [go_sem, Nat.sub_zero, List.drop_zero, eq_self, Option.getD_none, Option.getD_some, Option.isSome_none, Option.isSome_some, Option.isNone_none, Option.isNone_some, Bool.or_false, Bool.false_or, Bool.and_false, Bool.false_and, Int.le_refl, Nat.le_refl, List.length_map, List.getElem?_map, Int.natCast_add, Int.natCast_one, List.append_assoc, List.length_append, Nat.add_assoc, and_self, and_true, true_and, and_false, false_and, or_true, true_or, or_false, false_or, not_true_eq_false, not_false_eq_true, Int.cast_ofNat_Int, Int.natCast_nonneg, Int.toNat_natCast, ne_eq, not_true_eq_false, not_false_eq_true, Nat.reduceBEq, Nat.reduceAdd, Nat.reduceSub, Nat.reduceMul, Nat.reduceLeDiff, Nat.reduceEqDiff, Nat.reduceLT, Int.reduceNeg, Int.reduceAdd, Int.reduceSub, Int.reduceMul, Int.reduceLE, Int.reduceLT, Int.reduceEq, Int.reduceToNat, reduceCtorEq, IntWalk.i64_in, hh, hhq, List.all_append, a1, a2, hi1, hj1, j2, j3, Col.cells, set_cols]
  obtain ⟨cs2, hcs2⟩ : ∃ cs2, cs2 = cb.set j.toNat ⟨(ca'.getD i.toNat ⟨0, false⟩).kind, (cb.getD j.toNat ⟨0, false⟩).empty⟩ := ⟨_, rfl⟩
  have l2 : cs2.length = cb.length := by rw [hcs2, List.length_set]
  rw [← hcs2]
  clear hcs2 a2
  generalize hx : callS (runD tab noExt _) (_ ++ _ :: _) 133 _ true = X
  obtain ⟨rs1, p3, rfl, b1, b2, b3⟩ := exk_bag hx (by omega) (by omega) hb hhp (by simp only [ht, plainH_nil, plainH_cons, plainH_append, plainB, List.all_cons, List.all_nil, Bool.and_self, Bool.and_true]) (by omega)
  clear hx
  simp -implicitDefEqProofs (disch := first | omega | assumption) only [go_sem, Nat.sub_zero, List.drop_zero, eq_self, Option.getD_none, Option.getD_some, Option.isSome_none, Option.isSome_some, Option.isNone_none, Option.isNone_some, Bool.or_false, Bool.false_or, Bool.and_false, Bool.false_and, Int.le_refl, Nat.le_refl, List.length_map, List.getElem?_map, Int.natCast_add, Int.natCast_one, List.append_assoc, List.length_append, Nat.add_assoc, and_self, and_true, true_and, and_false, false_and, or_true, true_or, or_false, false_or, not_true_eq_false, not_false_eq_true, Int.cast_ofNat_Int, Int.natCast_nonneg, Int.toNat_natCast, ne_eq, not_true_eq_false, not_false_eq_true, Nat.reduceBEq, Nat.reduceAdd, Nat.reduceSub, Nat.reduceMul, Nat.reduceLeDiff, Nat.reduceEqDiff, Nat.reduceLT, Int.reduceNeg, Int.reduceAdd, Int.reduceSub, Int.reduceMul, Int.reduceLE, Int.reduceLT, Int.reduceEq, Int.reduceToNat, reduceCtorEq, IntWalk.i64_in, hh, hhq, List.all_append]
  generalize hx : callS (runD tab noExt _) (_ ++ _ :: _) 133 _ false = X
  obtain ⟨rs2, p4, rfl, c1, c2, c3⟩ := ex_bag hx (by omega) (by omega) hb hhp (by simp only [ht, plainH_nil, plainH_cons, plainH_append, plainB, List.all_cons, List.all_nil, Bool.and_self, Bool.and_true]) (by omega)
  clear hx
  have hl1 : rs1.length + rs2.length < 4294967296 := by have := b3.1; have := c3.1; omega
  simp -implicitDefEqProofs (disch := first | omega | assumption) only [go_sem, Nat.sub_zero, List.drop_zero, eq_self, Option.getD_none, Option.getD_some, Option.isSome_none, Option.isSome_some, Option.isNone_none, Option.isNone_some, Bool.or_false, Bool.false_or, Bool.and_false, Bool.false_and, Int.le_refl, Nat.le_refl, List.length_map, List.getElem?_map, Int.natCast_add, Int.natCast_one, List.append_assoc, List.length_append, Nat.add_assoc, and_self, and_true, true_and, and_false, false_and, or_true, true_or, or_false, false_or, not_true_eq_false, not_false_eq_true, Int.cast_ofNat_Int, Int.natCast_nonneg, Int.toNat_natCast, ne_eq, not_true_eq_false, not_false_eq_true, Nat.reduceBEq, Nat.reduceAdd, Nat.reduceSub, Nat.reduceMul, Nat.reduceLeDiff, Nat.reduceEqDiff, Nat.reduceLT, Int.reduceNeg, Int.reduceAdd, Int.reduceSub, Int.reduceMul, Int.reduceLE, Int.reduceLT, Int.reduceEq, Int.reduceToNat, reduceCtorEq, IntWalk.i64_in, hh, hhq, List.all_append, hl1, take_mapG]
  generalize hx : callS (runD tab noExt _) (_ ++ _ :: _) 133 _ true = X
  obtain ⟨rs3, p5, rfl, d1, d2, d3⟩ := exk_bagR (cs := cs2) (b0 := t.length + 2) hx (by omega) (by omega) hb hhp (by simp only [ht, plainH_nil, plainH_cons, plainH_append, plainB, List.all_cons, List.all_nil, Bool.and_self, Bool.and_true]) (by simp) (by omega) (by omega)
  clear hx
  have hl3 : rs3.length + 1 < 4294967296 := by have := d3.1; omega
  have fin : ∀ (rs3' : List Row) (i' j' p' : Int), rs3'.length ≤ 7 → (∀ r ∈ rs3', GR r.vs) → p ≤ p' → ∃ (ca cb : List Col) (a b : List Row) (i j p'' : Int), (some (.tup [.sl false 2 (ca'.map Col.cells), .sl false 2 ((cs2.take n').map Col.cells), .sl false 1 (rs1.map Row.cells ++ rs2.map Row.cells), .sl false 1 (rs3'.map Row.cells), .int .i64 i', .int .i64 j'], hp ++ .box [.sl c 1 (cellsOfBytes bs), .int .i64 (p')] :: t) : Option (V × Heap)) = some (.tup [.sl false 2 (ca.map Col.cells), .sl false 2 (cb.map Col.cells), .sl false 1 (a.map Row.cells), .sl false 1 (b.map Row.cells), .int .i64 i, .int .i64 j], hp ++ .box [.sl c 1 (cellsOfBytes bs), .int .i64 (p'')] :: t) ∧ p ≤ p'' ∧ PairPost n ca cb a b i j := by
    intro rs3' i' j' p' h1 h2 h3
    refine ⟨ca', cs2.take n', rs1 ++ rs2, rs3', i', j', p', by rw [List.map_append], h3, la2, by rw [List.length_take]; omega, ?_, h1, ?_, h2⟩
    · have := b3.1; have := c3.1; rw [List.length_append]; omega
    · intro r hr
      rcases List.mem_append.1 hr with hr | hr
      · exact b3.2 r hr
      · exact c3.2 r hr
  simp -implicitDefEqProofs (disch := first | omega | assumption) only [go_sem, Nat.sub_zero, List.drop_zero, eq_self, Option.getD_none, Option.getD_some, Option.isSome_none, Option.isSome_some, Option.isNone_none, Option.isNone_some, Bool.or_false, Bool.false_or, Bool.and_false, Bool.false_and, Int.le_refl, Nat.le_refl, List.length_map, List.getElem?_map, Int.natCast_add, Int.natCast_one, List.append_assoc, List.length_append, Nat.add_assoc, and_self, and_true, true_and, and_false, false_and, or_true, true_or, or_false, false_or, not_true_eq_false, not_false_eq_true, Int.cast_ofNat_Int, Int.natCast_nonneg, Int.toNat_natCast, ne_eq, not_true_eq_false, not_false_eq_true, Nat.reduceBEq, Nat.reduceAdd, Nat.reduceSub, Nat.reduceMul, Nat.reduceLeDiff, Nat.reduceEqDiff, Nat.reduceLT, Int.reduceNeg, Int.reduceAdd, Int.reduceSub, Int.reduceMul, Int.reduceLE, Int.reduceLT, Int.reduceEq, Int.reduceToNat, reduceCtorEq, IntWalk.i64_in, hh, hhq, List.all_append, hl3, take_mapG]
  repeat' (first | ((conv in (callS _ _ 134 _ false) => skip); generalize hx : callS (runD tab noExt _) (_ ++ _ :: _) 134 _ false = X; obtain ⟨b, p', rfl, hm1, hm2, hm3⟩ := ex_odd hx (by omega) (by omega) hb hhp (by simp only [ht, plainH_nil, plainH_cons, plainH_append, plainB, List.all_cons, List.all_nil, Bool.and_self, Bool.and_true]) ; skip; clear hx; simp -implicitDefEqProofs (disch := omega) only [go_sem, Nat.sub_zero, List.drop_zero, eq_self, Option.getD_none, Option.getD_some, Option.isSome_none, Option.isSome_some, Option.isNone_none, Option.isNone_some, Bool.or_false, Bool.false_or, Bool.and_false, Bool.false_and, Int.le_refl, Nat.le_refl, List.length_map, List.getElem?_map, Int.natCast_add, Int.natCast_one, List.append_assoc, List.length_append, Nat.add_assoc, and_self, and_true, true_and, and_false, false_and, or_true, true_or, or_false, false_or, not_true_eq_false, not_false_eq_true, Int.cast_ofNat_Int, Int.natCast_nonneg, Int.toNat_natCast, ne_eq, not_true_eq_false, not_false_eq_true, Nat.reduceBEq, Nat.reduceAdd, Nat.reduceSub, Nat.reduceMul, Nat.reduceLeDiff, Nat.reduceEqDiff, Nat.reduceLT, Int.reduceNeg, Int.reduceAdd, Int.reduceSub, Int.reduceMul, Int.reduceLE, Int.reduceLT, Int.reduceEq, Int.reduceToNat, reduceCtorEq, IntWalk.i64_in, hh, hhq, List.all_append, hl3, take_mapG, *]) | ((conv in (callS _ _ 65 _ false) => skip); generalize hx : callS (runD tab noExt _) (_ ++ _ :: _) 65 _ false = X; obtain ⟨m, rfl, hn1, hn2⟩ := ex_pick hx (by omega) (by omega) hb hhp (by simp only [ht, plainH_nil, plainH_cons, plainH_append, plainB, List.all_cons, List.all_nil, Bool.and_self, Bool.and_true]) ; skip; clear hx; simp -implicitDefEqProofs (disch := omega) only [go_sem, Nat.sub_zero, List.drop_zero, eq_self, Option.getD_none, Option.getD_some, Option.isSome_none, Option.isSome_some, Option.isNone_none, Option.isNone_some, Bool.or_false, Bool.false_or, Bool.and_false, Bool.false_and, Int.le_refl, Nat.le_refl, List.length_map, List.getElem?_map, Int.natCast_add, Int.natCast_one, List.append_assoc, List.length_append, Nat.add_assoc, and_self, and_true, true_and, and_false, false_and, or_true, true_or, or_false, false_or, not_true_eq_false, not_false_eq_true, Int.cast_ofNat_Int, Int.natCast_nonneg, Int.toNat_natCast, ne_eq, not_true_eq_false, not_false_eq_true, Nat.reduceBEq, Nat.reduceAdd, Nat.reduceSub, Nat.reduceMul, Nat.reduceLeDiff, Nat.reduceEqDiff, Nat.reduceLT, Int.reduceNeg, Int.reduceAdd, Int.reduceSub, Int.reduceMul, Int.reduceLE, Int.reduceLT, Int.reduceEq, Int.reduceToNat, reduceCtorEq, IntWalk.i64_in, hh, hhq, List.all_append, hl3, take_mapG, *]) | ((first | rw [GuardI_ndec] | rw [CondC_ndec] | rw [GuardQ_ndec] | rw [GuardV_ndec] | rw [GuardI_dec] | rw [CondC_dec] | rw [GuardQ_dec] | rw [GuardV_dec] | rw [GuardI_nby] | rw [CondC_nby] | rw [GuardQ_nby] | rw [GuardV_nby] | rw [GuardQ_by] | rw [GuardI_by] | rw [GuardV_by] | rw [CondC_by]) <;> split <;> simp -implicitDefEqProofs (disch := omega) only [go_sem, Nat.sub_zero, List.drop_zero, eq_self, Option.getD_none, Option.getD_some, Option.isSome_none, Option.isSome_some, Option.isNone_none, Option.isNone_some, Bool.or_false, Bool.false_or, Bool.and_false, Bool.false_and, Int.le_refl, Nat.le_refl, List.length_map, List.getElem?_map, Int.natCast_add, Int.natCast_one, List.append_assoc, List.length_append, Nat.add_assoc, and_self, and_true, true_and, and_false, false_and, or_true, true_or, or_false, false_or, not_true_eq_false, not_false_eq_true, Int.cast_ofNat_Int, Int.natCast_nonneg, Int.toNat_natCast, ne_eq, not_true_eq_false, not_false_eq_true, Nat.reduceBEq, Nat.reduceAdd, Nat.reduceSub, Nat.reduceMul, Nat.reduceLeDiff, Nat.reduceEqDiff, Nat.reduceLT, Int.reduceNeg, Int.reduceAdd, Int.reduceSub, Int.reduceMul, Int.reduceLE, Int.reduceLT, Int.reduceEq, Int.reduceToNat, reduceCtorEq, IntWalk.i64_in, hh, hhq, List.all_append, hl3, take_mapG, *]))
  all_goals rw [show List.take (rs1.length + rs2.length) (rs1.map Row.cells ++ rs2.map Row.cells) = rs1.map Row.cells ++ rs2.map Row.cells from List.take_of_length_le (by simp)]
  · exact fin rs3 _ _ _ (by have := d3.1; omega) d3.2 (by omega)
  · have e3 : List.take (rs3.length + 1) (rs3.map Row.cells ++ [[V.sl true 3 [[.int .i64 7, .int .i64 0, .str ⟨#[]⟩]]]]) = (rs3 ++ [(⟨true, [⟨7, 0, ⟨#[]⟩⟩]⟩ : Row)]).map Row.cells := by
      rw [List.take_of_length_le (by simp)]; simp [Row.cells, Row.v, Val.cells]
    rw [e3]
    refine fin (rs3 ++ [(⟨true, [⟨7, 0, ⟨#[]⟩⟩]⟩ : Row)]) _ _ _ (by have := d3.1; rw [List.length_append]; simp; omega) (fun r hr => ?_) (by omega)
    rcases List.mem_append.1 hr with hr | hr
    · exact d3.2 r hr
    · obtain rfl := List.mem_singleton.1 hr
      exact ⟨by decide, fun v hv => by obtain rfl := List.mem_singleton.1 hv; exact Nat.zero_le _⟩
  · exact fin rs3 _ _ _ (by have := d3.1; omega) d3.2 (by omega)
  · exact fin rs3 _ _ _ (by have := d3.1; omega) d3.2 (by omega)
end Go.Proofs.Ytgepapgabnaonaa.PE
