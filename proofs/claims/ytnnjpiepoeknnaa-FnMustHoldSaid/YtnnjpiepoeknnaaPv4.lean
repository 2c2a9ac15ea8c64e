/- Values that are drawn. -/
import Derived.Test.YtnnjpiepoeknnaaPv3
set_option linter.unusedSimpArgs false
set_option linter.unusedVariables false
set_option maxHeartbeats 4000000
namespace Go.Proofs.Ytnnjpiepoeknnaa.PE
open Go.RowKit

theorem idx_split {α : Type} {a : α} {l : List α} {m : Int} {Y : Option α} (h : (a :: l)[m.toNat]? = Y) : (m ≤ 0 ∧ some a = Y) ∨ (0 < m ∧ l[(m - 1).toNat]? = Y) := by
  subst h
  by_cases h : 0 < m
  · exact .inr ⟨h, by rw [show m.toNat = (m - 1).toNat + 1 by omega]; rfl⟩
  · exact .inl ⟨by omega, by rw [show m.toNat = 0 by omega]; rfl⟩

/-- A drawn value's text is short. -/
def GV (v : Val) : Prop := v.s.size ≤ 20

-- find105
theorem ex_like {d : Nat} {hp t : Heap} {c : Bool} {bs : List UInt8} {p k : Int} {e : Bool} {X : Option (V × Heap)} (hx : callS (runD tab noExt (d + 2)) (hp ++ .box [.sl c 1 (cellsOfBytes bs), .int .i64 (p)] :: t) 105 [.ptr hp.length 0 0 0, .agg [.int .i64 k, .bool e]] false = X)
    (hp0 : 0 ≤ p) (hq : p ≤ 1099511000000) (hb : bs.length ≤ 2000) (hhp : plainH hp = true) (ht : plainH t = true) :
    ∃ v p', X = some (Val.enc v, hp ++ .box [.sl c 1 (cellsOfBytes bs), .int .i64 (p')] :: t) ∧ p ≤ p' ∧ p' ≤ p + 2 ∧ GV v := by
  subst hx
  have hh : ∀ n, t.all (hiB n) = true := fun n => plainH_hi ht n
  have hhq : ∀ n, hp.all (hiB n) = true := fun n => plainH_hi hhp n
  rw [callS_eq, runD_eq find105 _ _ _ (by simp)]
  simp only [go_sem, List.length_map, List.getElem?_map, Int.natCast_add, Int.natCast_one, List.append_assoc, List.length_append, Nat.add_assoc, and_self, and_true, true_and, and_false, false_and, or_true, true_or, or_false, false_or, not_true_eq_false, not_false_eq_true, Int.cast_ofNat_Int, Int.natCast_nonneg, Int.toNat_natCast, ne_eq, not_true_eq_false, not_false_eq_true, Nat.reduceBEq, Nat.reduceAdd, Nat.reduceSub, Nat.reduceMul, Nat.reduceLeDiff, Nat.reduceEqDiff, Nat.reduceLT, Int.reduceNeg, Int.reduceAdd, Int.reduceSub, Int.reduceMul, Int.reduceLE, Int.reduceLT, Int.reduceEq, Int.reduceToNat, reduceCtorEq]
  have hidx : ∀ m : Int, 0 ≤ m → m < 4 → ∃ x : ByteArray, ([[.str ⟨#[]⟩], [.str ⟨#[97]⟩], [.str ⟨#[98]⟩], [.str ⟨#[97, 98]⟩]] : List (List V))[m.toNat]? = some [.str x] ∧ x.size ≤ 2 := by
    intro m h0 h1
    rcases (by omega : m = 0 ∨ m = 1 ∨ m = 2 ∨ m = 3) with rfl | rfl | rfl | rfl <;> exact ⟨_, rfl, Nat.le_of_ble_eq_true rfl⟩
  repeat' (first | ((conv in (callS _ _ 104 _ false) => skip); generalize hx : callS (runD tab noExt _) (_ ++ _ :: _) 104 [_, .int .i64 4] false = X; obtain ⟨m, rfl, hm1, hm2⟩ := ex_pick hx (by omega) (by omega) hb hhp (by simp only [ht, plainH_nil, plainH_cons, plainH_append, plainB, List.all_cons, List.all_nil, Bool.and_self, Bool.and_true]) ; skip; clear hx; obtain ⟨x, hx1, hx2⟩ := hidx m hm1 (by omega); simp (disch := omega) only [go_sem, List.length_map, List.getElem?_map, Int.natCast_add, Int.natCast_one, List.append_assoc, List.length_append, Nat.add_assoc, and_self, and_true, true_and, and_false, false_and, or_true, true_or, or_false, false_or, not_true_eq_false, not_false_eq_true, Int.cast_ofNat_Int, Int.natCast_nonneg, Int.toNat_natCast, ne_eq, not_true_eq_false, not_false_eq_true, Nat.reduceBEq, Nat.reduceAdd, Nat.reduceSub, Nat.reduceMul, Nat.reduceLeDiff, Nat.reduceEqDiff, Nat.reduceLT, Int.reduceNeg, Int.reduceAdd, Int.reduceSub, Int.reduceMul, Int.reduceLE, Int.reduceLT, Int.reduceEq, Int.reduceToNat, reduceCtorEq, IntWalk.i64_in, hh, hhq, List.all_append, *]) | ((conv in (callS _ _ 104 _ false) => skip); generalize hx : callS (runD tab noExt _) (_ ++ _ :: _) 104 _ false = X; obtain ⟨m, rfl, hm1, hm2⟩ := ex_pick hx (by omega) (by omega) hb hhp (by simp only [ht, plainH_nil, plainH_cons, plainH_append, plainB, List.all_cons, List.all_nil, Bool.and_self, Bool.and_true]) ; skip; clear hx; simp (disch := omega) only [go_sem, List.length_map, List.getElem?_map, Int.natCast_add, Int.natCast_one, List.append_assoc, List.length_append, Nat.add_assoc, and_self, and_true, true_and, and_false, false_and, or_true, true_or, or_false, false_or, not_true_eq_false, not_false_eq_true, Int.cast_ofNat_Int, Int.natCast_nonneg, Int.toNat_natCast, ne_eq, not_true_eq_false, not_false_eq_true, Nat.reduceBEq, Nat.reduceAdd, Nat.reduceSub, Nat.reduceMul, Nat.reduceLeDiff, Nat.reduceEqDiff, Nat.reduceLT, Int.reduceNeg, Int.reduceAdd, Int.reduceSub, Int.reduceMul, Int.reduceLE, Int.reduceLT, Int.reduceEq, Int.reduceToNat, reduceCtorEq, IntWalk.i64_in, hh, hhq, List.all_append, *]) | ((first | rw [GuardI_ndec] | rw [CondC_ndec] | rw [GuardQ_ndec] | rw [GuardV_ndec] | rw [GuardI_dec] | rw [CondC_dec] | rw [GuardQ_dec] | rw [GuardV_dec] | rw [GuardI_nby] | rw [CondC_nby] | rw [GuardQ_nby] | rw [GuardV_nby] | rw [GuardQ_by] | rw [GuardI_by] | rw [GuardV_by] | rw [CondC_by]) <;> split <;> simp (disch := omega) only [go_sem, List.length_map, List.getElem?_map, Int.natCast_add, Int.natCast_one, List.append_assoc, List.length_append, Nat.add_assoc, and_self, and_true, true_and, and_false, false_and, or_true, true_or, or_false, false_or, not_true_eq_false, not_false_eq_true, Int.cast_ofNat_Int, Int.natCast_nonneg, Int.toNat_natCast, ne_eq, not_true_eq_false, not_false_eq_true, Nat.reduceBEq, Nat.reduceAdd, Nat.reduceSub, Nat.reduceMul, Nat.reduceLeDiff, Nat.reduceEqDiff, Nat.reduceLT, Int.reduceNeg, Int.reduceAdd, Int.reduceSub, Int.reduceMul, Int.reduceLE, Int.reduceLT, Int.reduceEq, Int.reduceToNat, reduceCtorEq, IntWalk.i64_in, hh, hhq, List.all_append, *]))
  all_goals first | (exfalso; omega) | (refine ⟨⟨_, _, _⟩, _, rfl, ?_, ?_, ?_⟩ <;> first | omega | exact Nat.le_of_ble_eq_true rfl | exact Nat.le_trans (by assumption) (by decide))

theorem size_append' (a b : ByteArray) : (a ++ b).size = a.size + b.size := ByteArray.size_append
theorem size_one (b : UInt8) : (⟨#[b]⟩ : ByteArray).size = 1 := rfl

def ValPost (p q : Int) (s s' : ByteArray) (p' : Int) : Prop := p ≤ p' ∧ p' ≤ p + q ∧ s'.size ≤ s.size + q
-- find145
theorem loop_value {d : Nat} {hp t : Heap} {c : Bool} {bs : List UInt8} {n : Int} (hb : bs.length ≤ 2000) (hhp : plainH hp = true) (ht : plainH t = true) : ∀ (j K : Nat) {p k : Int} {s : ByteArray} {Y : Out},
    LoopS (runD tab noExt (d + 1)) (drawI (runD tab noExt (d + 1))) [0, 1, 4, 5, 6] [0, 1, 4, 5] L145x0 (hp.length + (t.length + 3)) K [(0, .ptr hp.length 0 0 0), (1, .int .i64 n), (4, .ptr (hp.length + (t.length + 1)) 0 0 0), (5, .ptr (hp.length + (t.length + 2)) 0 0 0), (6, .int .i64 k)]
      (hp ++ .box [.sl c 1 (cellsOfBytes bs), .int .i64 (p)] :: (t ++ [.box [.int .i64 0, .int .i64 0, .str ⟨#[]⟩], .box [.int .i64 2, .int .i64 0, .str s]])) = Y →
    k = j → j ≤ K → s.size + j ≤ 1000 → 0 ≤ p → p + j ≤ 1099511000000 → ∃ s' p', Y = some (.exit 1, [(0, .ptr hp.length 0 0 0), (1, .int .i64 n), (4, .ptr (hp.length + (t.length + 1)) 0 0 0), (5, .ptr (hp.length + (t.length + 2)) 0 0 0)],
      hp ++ .box [.sl c 1 (cellsOfBytes bs), .int .i64 (p')] :: (t ++ [.box [.int .i64 0, .int .i64 0, .str ⟨#[]⟩], .box [.int .i64 2, .int .i64 0, .str s']])) ∧ ValPost p j s s' p' := by
  have hh : ∀ n, t.all (hiB n) = true := fun n => plainH_hi ht n
  have hhq : ∀ n, hp.all (hiB n) = true := fun n => plainH_hi hhp n
  intro j
  induction j with
  | zero =>
    intro K p k s Y hL hk hK hs hp0 hq
    subst hL hk
    rw [LoopS_eq]
    simp only [go_sem, List.length_map, List.getElem?_map, Int.natCast_add, Int.natCast_one, List.append_assoc, List.length_append, Nat.add_assoc, and_self, and_true, true_and, and_false, false_and, or_true, true_or, or_false, false_or, not_true_eq_false, not_false_eq_true, Int.cast_ofNat_Int, Int.natCast_nonneg, Int.toNat_natCast, ne_eq, not_true_eq_false, not_false_eq_true, Nat.reduceBEq, Nat.reduceAdd, Nat.reduceSub, Nat.reduceMul, Nat.reduceLeDiff, Nat.reduceEqDiff, Nat.reduceLT, Int.reduceNeg, Int.reduceAdd, Int.reduceSub, Int.reduceMul, Int.reduceLE, Int.reduceLT, Int.reduceEq, Int.reduceToNat, reduceCtorEq, evL145x0, B145x0, hh, hhq, List.all_append, Int.lt_irrefl, Int.natCast_zero]
    exact ⟨s, p, rfl, by omega, by omega, by omega⟩
  | succ j ih =>
    intro K p k s Y hL hk hK hs hp0 hq
    obtain ⟨K, rfl⟩ : ∃ K', K = K' + 1 := ⟨K - 1, by omega⟩
    subst hL
    have hk0 : 0 < k := by omega
    have h1 : s.size + 1 < 4294967296 := by omega
    rw [LoopS_eq]
    simp (disch := omega) only [go_sem, List.length_map, List.getElem?_map, Int.natCast_add, Int.natCast_one, List.append_assoc, List.length_append, Nat.add_assoc, and_self, and_true, true_and, and_false, false_and, or_true, true_or, or_false, false_or, not_true_eq_false, not_false_eq_true, Int.cast_ofNat_Int, Int.natCast_nonneg, Int.toNat_natCast, ne_eq, not_true_eq_false, not_false_eq_true, Nat.reduceBEq, Nat.reduceAdd, Nat.reduceSub, Nat.reduceMul, Nat.reduceLeDiff, Nat.reduceEqDiff, Nat.reduceLT, Int.reduceNeg, Int.reduceAdd, Int.reduceSub, Int.reduceMul, Int.reduceLE, Int.reduceLT, Int.reduceEq, Int.reduceToNat, reduceCtorEq, evL145x0, B145x0, evC_draw, evD145x0, E145x0, hh, hhq, hk0, List.all_append]
    repeat' (first | ((conv in (callS _ _ 104 _ false) => skip); generalize hx : callS (runD tab noExt _) (_ ++ _ :: _) 104 _ false = X; obtain ⟨m, rfl, hm1, hm2⟩ := ex_pick hx (by omega) (by omega) hb hhp (by simp only [ht, plainH_nil, plainH_cons, plainH_append, plainB, List.all_cons, List.all_nil, Bool.and_self, Bool.and_true]) ; skip;  simp (disch := omega) only [go_sem, List.length_map, List.getElem?_map, Int.natCast_add, Int.natCast_one, List.append_assoc, List.length_append, Nat.add_assoc, and_self, and_true, true_and, and_false, false_and, or_true, true_or, or_false, false_or, not_true_eq_false, not_false_eq_true, Int.cast_ofNat_Int, Int.natCast_nonneg, Int.toNat_natCast, ne_eq, not_true_eq_false, not_false_eq_true, Nat.reduceBEq, Nat.reduceAdd, Nat.reduceSub, Nat.reduceMul, Nat.reduceLeDiff, Nat.reduceEqDiff, Nat.reduceLT, Int.reduceNeg, Int.reduceAdd, Int.reduceSub, Int.reduceMul, Int.reduceLE, Int.reduceLT, Int.reduceEq, Int.reduceToNat, reduceCtorEq, IntWalk.i64_in, hh, hhq, List.all_append, elemsOf, elemOf, frzs, List.flatMap_cons, List.flatMap_nil, refsV, refC, refs, listOf, bytesOf, small, size_one, *]) | ((first | rw [GuardI_ndec] | rw [CondC_ndec] | rw [GuardQ_ndec] | rw [GuardV_ndec] | rw [GuardI_dec] | rw [CondC_dec] | rw [GuardQ_dec] | rw [GuardV_dec] | rw [GuardI_nby] | rw [CondC_nby] | rw [GuardQ_nby] | rw [GuardV_nby] | rw [GuardQ_by] | rw [GuardI_by] | rw [GuardV_by] | rw [CondC_by]) <;> split <;> simp (disch := omega) only [go_sem, List.length_map, List.getElem?_map, Int.natCast_add, Int.natCast_one, List.append_assoc, List.length_append, Nat.add_assoc, and_self, and_true, true_and, and_false, false_and, or_true, true_or, or_false, false_or, not_true_eq_false, not_false_eq_true, Int.cast_ofNat_Int, Int.natCast_nonneg, Int.toNat_natCast, ne_eq, not_true_eq_false, not_false_eq_true, Nat.reduceBEq, Nat.reduceAdd, Nat.reduceSub, Nat.reduceMul, Nat.reduceLeDiff, Nat.reduceEqDiff, Nat.reduceLT, Int.reduceNeg, Int.reduceAdd, Int.reduceSub, Int.reduceMul, Int.reduceLE, Int.reduceLT, Int.reduceEq, Int.reduceToNat, reduceCtorEq, IntWalk.i64_in, hh, hhq, List.all_append, elemsOf, elemOf, frzs, List.flatMap_cons, List.flatMap_nil, refsV, refC, refs, listOf, bytesOf, small, size_one, *]))
    generalize hL : LoopS _ _ _ _ _ _ _ _ _ = Y
    obtain ⟨s', p', rfl, h2, h3, h4⟩ := ih K hL (by omega) (by omega) (by rw [size_append', size_one]; omega) (by omega) (by omega)
    rw [size_append', size_one] at h4
    exact ⟨s', p', rfl, by omega, by omega, by omega⟩
end Go.Proofs.Ytnnjpiepoeknnaa.PE
