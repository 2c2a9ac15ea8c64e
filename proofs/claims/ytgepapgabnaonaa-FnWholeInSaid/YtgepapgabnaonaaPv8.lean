/- Columns and rows that are drawn. -/
import Derived.Test.YtgepapgabnaonaaPv7
set_option linter.unusedSimpArgs false
set_option linter.unusedVariables false
set_option maxHeartbeats 4000000
namespace Go.Proofs.Ytgepapgabnaonaa.PE
open Go.RowKit

def IsCol (x : List V) : Prop := ∃ k e, x = [.int .i64 k, .bool e]
def AllP (P : List V → Prop) (l : List (List V)) : Prop := ∀ x ∈ l, P x
theorem AllP.nil {P : List V → Prop} : AllP P [] := fun _ h => by cases h
theorem AllP.snoc {P : List V → Prop} {l : List (List V)} {x : List V} (h : AllP P l) (hx : P x) : AllP P (l ++ [x]) := fun y hy => by
  rcases List.mem_append.1 hy with h1 | h1
  · exact h y h1
  · rw [List.mem_singleton.1 h1]; exact hx
theorem AllP.append {P : List V → Prop} {l l' : List (List V)} (h : AllP P l) (h' : AllP P l') : AllP P (l ++ l') := fun y hy => by
  rcases List.mem_append.1 hy with h1 | h1
  · exact h y h1
  · exact h' y h1
theorem allP_map {α : Type} {P : List V → Prop} (f : α → List V) (hf : ∀ x, P x → ∃ a, x = f a) : ∀ {l : List (List V)}, AllP P l → ∃ zs : List α, l = zs.map f
  | [], _ => ⟨[], rfl⟩
  | x :: r, h => by
    obtain ⟨a, ha⟩ := hf x (h x List.mem_cons_self)
    obtain ⟨zs, has⟩ := allP_map f hf (fun y hy => h y (List.mem_cons_of_mem _ hy))
    exact ⟨a :: zs, by rw [ha, has]; rfl⟩
theorem cols_of {l : List (List V)} (h : AllP IsCol l) : ∃ cs : List Col, l = cs.map Col.cells := allP_map Col.cells (fun x ⟨k, e, hx⟩ => ⟨⟨k, e⟩, hx⟩) h

def ColsPost (j : Nat) (cont : List (List V)) (p : Int) (cont' : List (List V)) (p' : Int) : Prop := AllP IsCol cont' ∧ cont'.length = cont.length + j ∧ p ≤ p' ∧ p' ≤ p + 2 * j
-- find87
theorem loop_columns {d : Nat} {hp t : Heap} {c : Bool} {bs : List UInt8} {n : Int} (hb : bs.length ≤ 2000) (hhp : plainH hp = true) (ht : plainH t = true) : ∀ (j K : Nat) {p k : Int} {st len : Nat} {cont : List (List V)} {Y : Out},
    LoopS (runD tab noExt (d + 1)) (drawI (runD tab noExt (d + 1))) [0, 1, 5, 6] [0, 1, 5] L87x0 (hp.length + (t.length + 3)) K [(0, .ptr hp.length 0 0 0), (1, .int .i64 n), (5, .ref (hp.length + (t.length + 2)) st 0 len false), (6, .int .i64 k)]
      (hp ++ .box [.sl c 1 (cellsOfBytes bs), .int .i64 (p)] :: (t ++ [.rows 0 2 [], .rows st 2 cont])) = Y →
    k = j → j ≤ K → len = cont.length → cont.length + j ≤ 100 → AllP IsCol cont → 0 ≤ p → p + 2 * j ≤ 1099511000000 → ∃ cont' st' p', Y = some (.exit 0, [(0, .ptr hp.length 0 0 0), (1, .int .i64 n), (5, .ref (hp.length + (t.length + 2)) st' 0 cont'.length false)],
      hp ++ .box [.sl c 1 (cellsOfBytes bs), .int .i64 (p')] :: (t ++ [.rows 0 2 [], .rows st' 2 cont'])) ∧ ColsPost j cont p cont' p' := by
  have hh : ∀ n, t.all (hiB n) = true := fun n => plainH_hi ht n
  have hhq : ∀ n, hp.all (hiB n) = true := fun n => plainH_hi hhp n
  have hidx : ∀ m : Int, 0 ≤ m → m < 4 → ∃ x : Int, ([[.int .i64 1], [.int .i64 1], [.int .i64 2], [.int .i64 3]] : List (List V))[m.toNat]? = some [.int .i64 x] := by
    intro m h0 h1
    rcases (by omega : m = 0 ∨ m = 1 ∨ m = 2 ∨ m = 3) with rfl | rfl | rfl | rfl <;> exact ⟨_, rfl⟩
  intro j
  induction j with
  | zero =>
    intro K p k st len cont Y hL hk hK hlen hs hc hp0 hq
    subst hL hk hlen
    rw [LoopS_eq]
    simp -implicitDefEqProofs only [go_sem, Nat.sub_zero, List.drop_zero, eq_self, Option.getD_none, Option.getD_some, Option.isSome_none, Option.isSome_some, Option.isNone_none, Option.isNone_some, Bool.or_false, Bool.false_or, Bool.and_false, Bool.false_and, Int.le_refl, Nat.le_refl, List.length_map, List.getElem?_map, Int.natCast_add, Int.natCast_one, List.append_assoc, List.length_append, Nat.add_assoc, and_self, and_true, true_and, and_false, false_and, or_true, true_or, or_false, false_or, not_true_eq_false, not_false_eq_true, Int.cast_ofNat_Int, Int.natCast_nonneg, Int.toNat_natCast, ne_eq, not_true_eq_false, not_false_eq_true, Nat.reduceBEq, Nat.reduceAdd, Nat.reduceSub, Nat.reduceMul, Nat.reduceLeDiff, Nat.reduceEqDiff, Nat.reduceLT, Int.reduceNeg, Int.reduceAdd, Int.reduceSub, Int.reduceMul, Int.reduceLE, Int.reduceLT, Int.reduceEq, Int.reduceToNat, reduceCtorEq, evL87x0, B87x0, hh, hhq, List.all_append, Int.lt_irrefl, Int.natCast_zero]
    exact ⟨cont, st, p, rfl, hc, rfl, by omega, by omega⟩
  | succ j ih =>
    intro K p k st len cont Y hL hk hK hlen hs hc hp0 hq
    obtain ⟨K, rfl⟩ : ∃ K', K = K' + 1 := ⟨K - 1, by omega⟩
    subst hL hlen
    have hk0 : 0 < k := by omega
    have h1 : cont.length + 1 < 4294967296 := by omega
    rw [LoopS_eq]
    simp -implicitDefEqProofs (disch := omega) only [go_sem, Nat.sub_zero, List.drop_zero, eq_self, Option.getD_none, Option.getD_some, Option.isSome_none, Option.isSome_some, Option.isNone_none, Option.isNone_some, Bool.or_false, Bool.false_or, Bool.and_false, Bool.false_and, Int.le_refl, Nat.le_refl, List.length_map, List.getElem?_map, Int.natCast_add, Int.natCast_one, List.append_assoc, List.length_append, Nat.add_assoc, and_self, and_true, true_and, and_false, false_and, or_true, true_or, or_false, false_or, not_true_eq_false, not_false_eq_true, Int.cast_ofNat_Int, Int.natCast_nonneg, Int.toNat_natCast, ne_eq, not_true_eq_false, not_false_eq_true, Nat.reduceBEq, Nat.reduceAdd, Nat.reduceSub, Nat.reduceMul, Nat.reduceLeDiff, Nat.reduceEqDiff, Nat.reduceLT, Int.reduceNeg, Int.reduceAdd, Int.reduceSub, Int.reduceMul, Int.reduceLE, Int.reduceLT, Int.reduceEq, Int.reduceToNat, reduceCtorEq, evL87x0, B87x0, evC_draw, evD87x0, E87x0, hh, hhq, hk0, List.all_append]
    repeat' (first | ((conv in (callS _ _ 65 _ false) => skip); generalize hx : callS (runD tab noExt _) (_ ++ _ :: _) 65 [_, .int .i64 4] false = X; obtain ⟨m, rfl, hm1, hm2⟩ := ex_pick hx (by omega) (by omega) hb hhp (by simp only [ht, plainH_nil, plainH_cons, plainH_append, plainB, List.all_cons, List.all_nil, Bool.and_self, Bool.and_true]) ; skip;  obtain ⟨x, hx1⟩ := hidx m hm1 (by omega); simp -implicitDefEqProofs (disch := omega) only [go_sem, Nat.sub_zero, List.drop_zero, eq_self, Option.getD_none, Option.getD_some, Option.isSome_none, Option.isSome_some, Option.isNone_none, Option.isNone_some, Bool.or_false, Bool.false_or, Bool.and_false, Bool.false_and, Int.le_refl, Nat.le_refl, List.length_map, List.getElem?_map, Int.natCast_add, Int.natCast_one, List.append_assoc, List.length_append, Nat.add_assoc, and_self, and_true, true_and, and_false, false_and, or_true, true_or, or_false, false_or, not_true_eq_false, not_false_eq_true, Int.cast_ofNat_Int, Int.natCast_nonneg, Int.toNat_natCast, ne_eq, not_true_eq_false, not_false_eq_true, Nat.reduceBEq, Nat.reduceAdd, Nat.reduceSub, Nat.reduceMul, Nat.reduceLeDiff, Nat.reduceEqDiff, Nat.reduceLT, Int.reduceNeg, Int.reduceAdd, Int.reduceSub, Int.reduceMul, Int.reduceLE, Int.reduceLT, Int.reduceEq, Int.reduceToNat, reduceCtorEq, IntWalk.i64_in, hh, hhq, List.all_append, *]) | ((conv in (callS _ _ 65 _ false) => skip); generalize hx : callS (runD tab noExt _) (_ ++ _ :: _) 65 _ false = X; obtain ⟨m, rfl, hm1, hm2⟩ := ex_pick hx (by omega) (by omega) hb hhp (by simp only [ht, plainH_nil, plainH_cons, plainH_append, plainB, List.all_cons, List.all_nil, Bool.and_self, Bool.and_true]) ; skip;  simp -implicitDefEqProofs (disch := omega) only [go_sem, Nat.sub_zero, List.drop_zero, eq_self, Option.getD_none, Option.getD_some, Option.isSome_none, Option.isSome_some, Option.isNone_none, Option.isNone_some, Bool.or_false, Bool.false_or, Bool.and_false, Bool.false_and, Int.le_refl, Nat.le_refl, List.length_map, List.getElem?_map, Int.natCast_add, Int.natCast_one, List.append_assoc, List.length_append, Nat.add_assoc, and_self, and_true, true_and, and_false, false_and, or_true, true_or, or_false, false_or, not_true_eq_false, not_false_eq_true, Int.cast_ofNat_Int, Int.natCast_nonneg, Int.toNat_natCast, ne_eq, not_true_eq_false, not_false_eq_true, Nat.reduceBEq, Nat.reduceAdd, Nat.reduceSub, Nat.reduceMul, Nat.reduceLeDiff, Nat.reduceEqDiff, Nat.reduceLT, Int.reduceNeg, Int.reduceAdd, Int.reduceSub, Int.reduceMul, Int.reduceLE, Int.reduceLT, Int.reduceEq, Int.reduceToNat, reduceCtorEq, IntWalk.i64_in, hh, hhq, List.all_append, *]) | ((first | rw [GuardI_ndec] | rw [CondC_ndec] | rw [GuardQ_ndec] | rw [GuardV_ndec] | rw [GuardI_dec] | rw [CondC_dec] | rw [GuardQ_dec] | rw [GuardV_dec] | rw [GuardI_nby] | rw [CondC_nby] | rw [GuardQ_nby] | rw [GuardV_nby] | rw [GuardQ_by] | rw [GuardI_by] | rw [GuardV_by] | rw [CondC_by]) <;> split <;> simp -implicitDefEqProofs (disch := omega) only [go_sem, Nat.sub_zero, List.drop_zero, eq_self, Option.getD_none, Option.getD_some, Option.isSome_none, Option.isSome_some, Option.isNone_none, Option.isNone_some, Bool.or_false, Bool.false_or, Bool.and_false, Bool.false_and, Int.le_refl, Nat.le_refl, List.length_map, List.getElem?_map, Int.natCast_add, Int.natCast_one, List.append_assoc, List.length_append, Nat.add_assoc, and_self, and_true, true_and, and_false, false_and, or_true, true_or, or_false, false_or, not_true_eq_false, not_false_eq_true, Int.cast_ofNat_Int, Int.natCast_nonneg, Int.toNat_natCast, ne_eq, not_true_eq_false, not_false_eq_true, Nat.reduceBEq, Nat.reduceAdd, Nat.reduceSub, Nat.reduceMul, Nat.reduceLeDiff, Nat.reduceEqDiff, Nat.reduceLT, Int.reduceNeg, Int.reduceAdd, Int.reduceSub, Int.reduceMul, Int.reduceLE, Int.reduceLT, Int.reduceEq, Int.reduceToNat, reduceCtorEq, IntWalk.i64_in, hh, hhq, List.all_append, *]))
    generalize hL : LoopS _ _ _ _ _ _ _ _ _ = Y
    obtain ⟨cont', st', p', rfl, h2, h3, h4, h5⟩ := ih K hL (by omega) (by omega) (by simp) (by simp; omega) (hc.snoc ⟨_, _, rfl⟩) (by omega) (by omega)
    exact ⟨cont', st', p', rfl, h2, by simp at h3; omega, by omega, by omega⟩

theorem ex_columns {d : Nat} {hp t : Heap} {c : Bool} {bs : List UInt8} {p n : Int} {X : Option (V × Heap)} (hx : callS (runD tab noExt (d + 3)) (hp ++ .box [.sl c 1 (cellsOfBytes bs), .int .i64 (p)] :: t) 87 [.ptr hp.length 0 0 0, .int .i64 n] false = X)
    (hp0 : 0 ≤ p) (hq : p ≤ 1099510000000) (hb : bs.length ≤ 2000) (hhp : plainH hp = true) (ht : plainH t = true) :
    ∃ (cs : List Col) (p' : Int), X = some (.sl false 2 (cs.map Col.cells), hp ++ .box [.sl c 1 (cellsOfBytes bs), .int .i64 (p')] :: t) ∧ p ≤ p' ∧ p' ≤ p + 10 ∧ 1 ≤ cs.length ∧ cs.length ≤ 6 := by
  subst hx
  have hh : ∀ n, t.all (hiB n) = true := fun n => plainH_hi ht n
  have hhq : ∀ n, hp.all (hiB n) = true := fun n => plainH_hi hhp n
  rw [callS_eq, runD_eq find87 _ _ _ (by simp)]
  simp -implicitDefEqProofs only [go_sem, Nat.sub_zero, List.drop_zero, eq_self, Option.getD_none, Option.getD_some, Option.isSome_none, Option.isSome_some, Option.isNone_none, Option.isNone_some, Bool.or_false, Bool.false_or, Bool.and_false, Bool.false_and, Int.le_refl, Nat.le_refl, List.length_map, List.getElem?_map, Int.natCast_add, Int.natCast_one, List.append_assoc, List.length_append, Nat.add_assoc, and_self, and_true, true_and, and_false, false_and, or_true, true_or, or_false, false_or, not_true_eq_false, not_false_eq_true, Int.cast_ofNat_Int, Int.natCast_nonneg, Int.toNat_natCast, ne_eq, not_true_eq_false, not_false_eq_true, Nat.reduceBEq, Nat.reduceAdd, Nat.reduceSub, Nat.reduceMul, Nat.reduceLeDiff, Nat.reduceEqDiff, Nat.reduceLT, Int.reduceNeg, Int.reduceAdd, Int.reduceSub, Int.reduceMul, Int.reduceLE, Int.reduceLT, Int.reduceEq, Int.reduceToNat, reduceCtorEq, hh, hhq, List.all_append]
  generalize hx : callS (runD tab noExt _) _ 65 _ _ = X
  obtain ⟨m, rfl, hm1, hm2⟩ := ex_pick hx (by omega) (by omega) hb hhp (by simp only [ht, plainH_nil, plainH_cons, plainH_append, plainB, List.all_cons, List.all_nil, Bool.and_self, Bool.and_true])
  clear hx
  simp -implicitDefEqProofs (disch := omega) only [go_sem, Nat.sub_zero, List.drop_zero, eq_self, Option.getD_none, Option.getD_some, Option.isSome_none, Option.isSome_some, Option.isNone_none, Option.isNone_some, Bool.or_false, Bool.false_or, Bool.and_false, Bool.false_and, Int.le_refl, Nat.le_refl, List.length_map, List.getElem?_map, Int.natCast_add, Int.natCast_one, List.append_assoc, List.length_append, Nat.add_assoc, and_self, and_true, true_and, and_false, false_and, or_true, true_or, or_false, false_or, not_true_eq_false, not_false_eq_true, Int.cast_ofNat_Int, Int.natCast_nonneg, Int.toNat_natCast, ne_eq, not_true_eq_false, not_false_eq_true, Nat.reduceBEq, Nat.reduceAdd, Nat.reduceSub, Nat.reduceMul, Nat.reduceLeDiff, Nat.reduceEqDiff, Nat.reduceLT, Int.reduceNeg, Int.reduceAdd, Int.reduceSub, Int.reduceMul, Int.reduceLE, Int.reduceLT, Int.reduceEq, Int.reduceToNat, reduceCtorEq, IntWalk.i64_in, hh, hhq, List.all_append]
  generalize hx : LoopS _ _ _ _ _ _ _ _ _ = Y
  obtain ⟨cont, st, p1, rfl, h1, h2, h3, h4⟩ := loop_columns hb hhp ht (1 + m).toNat _ hx (by omega) (by omega) rfl (by simp; omega) AllP.nil (by omega) (by omega)
  clear hx
  simp only [List.length_nil, Nat.zero_add] at h2
  have h2a : 1 ≤ cont.length := by omega
  have h2b : cont.length ≤ 3 := by omega
  have h4' : p1 ≤ p + 7 := by omega
  clear h2 h4
  have h5 : cont.length + 3 < 4294967296 := by omega
  simp -implicitDefEqProofs (disch := omega) only [go_sem, Nat.sub_zero, List.drop_zero, eq_self, Option.getD_none, Option.getD_some, Option.isSome_none, Option.isSome_some, Option.isNone_none, Option.isNone_some, Bool.or_false, Bool.false_or, Bool.and_false, Bool.false_and, Int.le_refl, Nat.le_refl, List.length_map, List.getElem?_map, Int.natCast_add, Int.natCast_one, List.append_assoc, List.length_append, Nat.add_assoc, and_self, and_true, true_and, and_false, false_and, or_true, true_or, or_false, false_or, not_true_eq_false, not_false_eq_true, Int.cast_ofNat_Int, Int.natCast_nonneg, Int.toNat_natCast, ne_eq, not_true_eq_false, not_false_eq_true, Nat.reduceBEq, Nat.reduceAdd, Nat.reduceSub, Nat.reduceMul, Nat.reduceLeDiff, Nat.reduceEqDiff, Nat.reduceLT, Int.reduceNeg, Int.reduceAdd, Int.reduceSub, Int.reduceMul, Int.reduceLE, Int.reduceLT, Int.reduceEq, Int.reduceToNat, reduceCtorEq, hh, hhq, List.all_append]
  repeat' (first | ((conv in (callS _ _ 134 _ false) => skip); generalize hx : callS (runD tab noExt _) (_ ++ _ :: _) 134 _ false = X; obtain ⟨b, p', rfl, hm1, hm2, hm3⟩ := ex_odd hx (by omega) (by omega) hb hhp (by simp only [ht, plainH_nil, plainH_cons, plainH_append, plainB, List.all_cons, List.all_nil, Bool.and_self, Bool.and_true]) ; skip; clear hx; simp -implicitDefEqProofs (disch := omega) only [go_sem, Nat.sub_zero, List.drop_zero, eq_self, Option.getD_none, Option.getD_some, Option.isSome_none, Option.isSome_some, Option.isNone_none, Option.isNone_some, Bool.or_false, Bool.false_or, Bool.and_false, Bool.false_and, Int.le_refl, Nat.le_refl, List.length_map, List.getElem?_map, Int.natCast_add, Int.natCast_one, List.append_assoc, List.length_append, Nat.add_assoc, and_self, and_true, true_and, and_false, false_and, or_true, true_or, or_false, false_or, not_true_eq_false, not_false_eq_true, Int.cast_ofNat_Int, Int.natCast_nonneg, Int.toNat_natCast, ne_eq, not_true_eq_false, not_false_eq_true, Nat.reduceBEq, Nat.reduceAdd, Nat.reduceSub, Nat.reduceMul, Nat.reduceLeDiff, Nat.reduceEqDiff, Nat.reduceLT, Int.reduceNeg, Int.reduceAdd, Int.reduceSub, Int.reduceMul, Int.reduceLE, Int.reduceLT, Int.reduceEq, Int.reduceToNat, reduceCtorEq, IntWalk.i64_in, hh, hhq, List.all_append, List.take_length, *]) | ((conv in (callS _ _ 65 _ false) => skip); generalize hx : callS (runD tab noExt _) (_ ++ _ :: _) 65 _ false = X; obtain ⟨m, rfl, hm1, hm2⟩ := ex_pick hx (by omega) (by omega) hb hhp (by simp only [ht, plainH_nil, plainH_cons, plainH_append, plainB, List.all_cons, List.all_nil, Bool.and_self, Bool.and_true]) ; skip; clear hx; simp -implicitDefEqProofs (disch := omega) only [go_sem, Nat.sub_zero, List.drop_zero, eq_self, Option.getD_none, Option.getD_some, Option.isSome_none, Option.isSome_some, Option.isNone_none, Option.isNone_some, Bool.or_false, Bool.false_or, Bool.and_false, Bool.false_and, Int.le_refl, Nat.le_refl, List.length_map, List.getElem?_map, Int.natCast_add, Int.natCast_one, List.append_assoc, List.length_append, Nat.add_assoc, and_self, and_true, true_and, and_false, false_and, or_true, true_or, or_false, false_or, not_true_eq_false, not_false_eq_true, Int.cast_ofNat_Int, Int.natCast_nonneg, Int.toNat_natCast, ne_eq, not_true_eq_false, not_false_eq_true, Nat.reduceBEq, Nat.reduceAdd, Nat.reduceSub, Nat.reduceMul, Nat.reduceLeDiff, Nat.reduceEqDiff, Nat.reduceLT, Int.reduceNeg, Int.reduceAdd, Int.reduceSub, Int.reduceMul, Int.reduceLE, Int.reduceLT, Int.reduceEq, Int.reduceToNat, reduceCtorEq, IntWalk.i64_in, hh, hhq, List.all_append, List.take_length, *]) | ((first | rw [GuardI_ndec] | rw [CondC_ndec] | rw [GuardQ_ndec] | rw [GuardV_ndec] | rw [GuardI_dec] | rw [CondC_dec] | rw [GuardQ_dec] | rw [GuardV_dec] | rw [GuardI_nby] | rw [CondC_nby] | rw [GuardQ_nby] | rw [GuardV_nby] | rw [GuardQ_by] | rw [GuardI_by] | rw [GuardV_by] | rw [CondC_by]) <;> split <;> simp -implicitDefEqProofs (disch := omega) only [go_sem, Nat.sub_zero, List.drop_zero, eq_self, Option.getD_none, Option.getD_some, Option.isSome_none, Option.isSome_some, Option.isNone_none, Option.isNone_some, Bool.or_false, Bool.false_or, Bool.and_false, Bool.false_and, Int.le_refl, Nat.le_refl, List.length_map, List.getElem?_map, Int.natCast_add, Int.natCast_one, List.append_assoc, List.length_append, Nat.add_assoc, and_self, and_true, true_and, and_false, false_and, or_true, true_or, or_false, false_or, not_true_eq_false, not_false_eq_true, Int.cast_ofNat_Int, Int.natCast_nonneg, Int.toNat_natCast, ne_eq, not_true_eq_false, not_false_eq_true, Nat.reduceBEq, Nat.reduceAdd, Nat.reduceSub, Nat.reduceMul, Nat.reduceLeDiff, Nat.reduceEqDiff, Nat.reduceLT, Int.reduceNeg, Int.reduceAdd, Int.reduceSub, Int.reduceMul, Int.reduceLE, Int.reduceLT, Int.reduceEq, Int.reduceToNat, reduceCtorEq, IntWalk.i64_in, hh, hhq, List.all_append, List.take_length, *]))
  · have h6 : AllP IsCol (cont ++ [[.int .i64 (m - 1), .bool false], [.int .i64 1, .bool false], [.int .i64 1, .bool false]]) := by
      rw [show ∀ (a b c : List V), cont ++ [a, b, c] = ((cont ++ [a]) ++ [b]) ++ [c] from fun a b c => by simp]
      exact ((h1.snoc ⟨_, _, rfl⟩).snoc ⟨_, _, rfl⟩).snoc ⟨_, _, rfl⟩
    obtain ⟨cs, hcs⟩ := cols_of h6
    have hl := congrArg List.length hcs
    simp at hl
    exact ⟨cs, _, by rw [hcs], by omega, by omega, by omega, by omega⟩
  · obtain ⟨cs, hcs⟩ := cols_of h1
    have hl := congrArg List.length hcs
    simp at hl
    exact ⟨cs, _, by rw [hcs], by omega, by omega, by omega, by omega⟩
end Go.Proofs.Ytgepapgabnaonaa.PE
