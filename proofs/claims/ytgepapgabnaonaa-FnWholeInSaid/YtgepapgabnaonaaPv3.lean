/- The reader of the drawn bytes. -/
import Derived.Test.YtgepapgabnaonaaPv1
set_option linter.unusedSimpArgs false
set_option linter.unusedVariables false
namespace Go.Proofs.Ytgepapgabnaonaa.PE
open Go.RowKit

theorem ofBytes_lt {l : List UInt8} {i : Nat} (h : i < l.length) : (cellsOfBytes l)[i]? = some [.int .u8 ((l.getD i 0).toNat : Int)] := by
  simp [cellsOfBytes, List.getElem?_eq_getElem h, List.getD_eq_getElem?_getD]
theorem ofBytes_len (l : List UInt8) : (cellsOfBytes l).length = l.length := by simp [cellsOfBytes]
theorem tmod_idx {a : Int} {n : Nat} (h : 0 ≤ a) (hn : 0 < n) : (a.tmod (n : Int)).toNat < n := by
  rw [Int.tmod_eq_emod_of_nonneg h]
  have := Int.emod_lt_of_pos a (show (0 : Int) < n by omega)
  omega
theorem tmod_nn {a n : Int} (h : 0 ≤ a) (hn : 0 < n) : 0 ≤ a.tmod n := by
  rw [Int.tmod_eq_emod_of_nonneg h]
  exact Int.emod_nonneg a (by omega)
theorem tmod_lt {a n : Int} (h : 0 ≤ a) (hn : 0 < n) : a.tmod n < n := by
  rw [Int.tmod_eq_emod_of_nonneg h]
  exact Int.emod_lt_of_pos a (by omega)
theorem tmod_nn' {a : Int} {n : Nat} (h : 0 ≤ a) (hn : 0 < n) : (0 ≤ a.tmod (n : Int)) = True := by simp [tmod_nn h (show (0 : Int) < n by omega)]
theorem tdiv_in {a n : Int} (h : 0 ≤ a) (hn : 0 < n) : 0 ≤ a.tdiv n ∧ a.tdiv n ≤ a := by
  rw [Int.tdiv_eq_ediv_of_nonneg h]
  exact ⟨Int.ediv_nonneg h (by omega), Int.ediv_le_self n h⟩
theorem tdiv64 {a : Int} (h : 0 ≤ a) : a.tdiv 64 = a / 64 := Int.tdiv_eq_ediv_of_nonneg h
theorem xor_nn {a b : Int} (ha : 0 ≤ a) (ha' : a < 9223372036854775808) (hb : 0 ≤ b) (hb' : b < 9223372036854775808) :
    0 ≤ IntKind.i64.wrap ((BitVec.ofInt IntKind.i64.bits a ^^^ BitVec.ofInt IntKind.i64.bits b).toNat : Int) := by
  have h1 : (BitVec.ofInt IntKind.i64.bits a ^^^ BitVec.ofInt IntKind.i64.bits b).toNat < 2 ^ 63 := by
    rw [BitVec.toNat_xor]
    have e : ∀ x : Int, 0 ≤ x → x < 9223372036854775808 → (BitVec.ofInt IntKind.i64.bits x).toNat < 2 ^ 63 := by
      intro x h0 h1
      rw [BitVec.toNat_ofInt]
      have : ((2 ^ IntKind.i64.bits : Nat) : Int) = 18446744073709551616 := rfl
      rw [this, Int.emod_eq_of_lt h0 (by omega)]
      have : (2 : Nat) ^ 63 = 9223372036854775808 := rfl
      omega
    exact Nat.xor_lt_two_pow (e a ha ha') (e b hb hb')
  have h2 : (2 : Nat) ^ 63 = 9223372036854775808 := rfl
  rw [IntWalk.i64_in _ (by omega)]
  omega
theorem u8_lt (l : List UInt8) (i : Nat) : ((l.getD i 0).toNat : Int) < 256 := by
  have := (l.getD i 0).toNat_lt
  omega
theorem u8_nn (l : List UInt8) (i : Nat) : (0 : Int) ≤ ((l.getD i 0).toNat : Int) := by omega
theorem i64_u8 (l : List UInt8) (i : Nat) : IntKind.i64.wrap ((l.getD i 0).toNat : Int) = ((l.getD i 0).toNat : Int) := by
  have := u8_lt l i
  exact IntWalk.i64_in _ (by omega)

/-- A number below n, or 0. -/
def Pk (n m : Int) : Prop := 0 ≤ m ∧ (m < n ∨ m = 0 ∧ n < 1)

-- find65
theorem ex_pick {d : Nat} {hp t : Heap} {c : Bool} {bs : List UInt8} {p n : Int} {X : Option (V × Heap)} (hx : callS (runD tab noExt (d + 1)) (hp ++ .box [.sl c 1 (cellsOfBytes bs), .int .i64 (p)] :: t) 65 [.ptr hp.length 0 0 0, .int .i64 n] false = X)
    (hp0 : 0 ≤ p) (hq : p ≤ 1099511627776) (hb : bs.length ≤ 2000) (hhp : plainH hp = true) (ht : plainH t = true) :
    ∃ m, X = some (.int .i64 m, hp ++ .box [.sl c 1 (cellsOfBytes bs), .int .i64 (p+1)] :: t) ∧ Pk n m := by
  subst hx
  have hh : ∀ n, t.all (hiB n) = true := fun n => plainH_hi ht n
  have hhq : ∀ n, hp.all (hiB n) = true := fun n => plainH_hi hhp n
  rw [callS_eq, runD_eq find65 _ _ _ (by simp)]
  by_cases h1 : n < 1
  · simp -implicitDefEqProofs (disch := omega) only [go_sem, Nat.sub_zero, List.drop_zero, eq_self, Option.getD_none, Option.getD_some, Option.isSome_none, Option.isSome_some, Option.isNone_none, Option.isNone_some, Bool.or_false, Bool.false_or, Bool.and_false, Bool.false_and, Int.le_refl, Nat.le_refl, List.length_map, List.getElem?_map, Int.natCast_add, Int.natCast_one, List.append_assoc, List.length_append, Nat.add_assoc, and_self, and_true, true_and, and_false, false_and, or_true, true_or, or_false, false_or, not_true_eq_false, not_false_eq_true, Int.cast_ofNat_Int, Int.natCast_nonneg, Int.toNat_natCast, ne_eq, not_true_eq_false, not_false_eq_true, Nat.reduceBEq, Nat.reduceAdd, Nat.reduceSub, Nat.reduceMul, Nat.reduceLeDiff, Nat.reduceEqDiff, Nat.reduceLT, Int.reduceNeg, Int.reduceAdd, Int.reduceSub, Int.reduceMul, Int.reduceLE, Int.reduceLT, Int.reduceEq, Int.reduceToNat, reduceCtorEq, IntWalk.i64_in, hh, hhq, List.all_append, h1]
    exact ⟨0, rfl, by omega, .inr ⟨rfl, h1⟩⟩
  · by_cases h2 : bs.length = 0
    · have h2' : (bs.length : Int) = 0 := by omega
      simp -implicitDefEqProofs (disch := omega) only [go_sem, Nat.sub_zero, List.drop_zero, eq_self, Option.getD_none, Option.getD_some, Option.isSome_none, Option.isSome_some, Option.isNone_none, Option.isNone_some, Bool.or_false, Bool.false_or, Bool.and_false, Bool.false_and, Int.le_refl, Nat.le_refl, List.length_map, List.getElem?_map, Int.natCast_add, Int.natCast_one, List.append_assoc, List.length_append, Nat.add_assoc, and_self, and_true, true_and, and_false, false_and, or_true, true_or, or_false, false_or, not_true_eq_false, not_false_eq_true, Int.cast_ofNat_Int, Int.natCast_nonneg, Int.toNat_natCast, ne_eq, not_true_eq_false, not_false_eq_true, Nat.reduceBEq, Nat.reduceAdd, Nat.reduceSub, Nat.reduceMul, Nat.reduceLeDiff, Nat.reduceEqDiff, Nat.reduceLT, Int.reduceNeg, Int.reduceAdd, Int.reduceSub, Int.reduceMul, Int.reduceLE, Int.reduceLT, Int.reduceEq, Int.reduceToNat, reduceCtorEq, IntWalk.i64_in, hh, hhq, List.all_append, h1, h2', ofBytes_len]
      exact ⟨0, rfl, by omega, .inl (by omega)⟩
    · have h2' : ((bs.length : Int) = 0) = False := eq_false (by omega)
      by_cases h3 : p < bs.length
      · have h4 : p.toNat < bs.length := by omega
        simp -implicitDefEqProofs (disch := omega) only [go_sem, Nat.sub_zero, List.drop_zero, eq_self, Option.getD_none, Option.getD_some, Option.isSome_none, Option.isSome_some, Option.isNone_none, Option.isNone_some, Bool.or_false, Bool.false_or, Bool.and_false, Bool.false_and, Int.le_refl, Nat.le_refl, List.length_map, List.getElem?_map, Int.natCast_add, Int.natCast_one, List.append_assoc, List.length_append, Nat.add_assoc, and_self, and_true, true_and, and_false, false_and, or_true, true_or, or_false, false_or, not_true_eq_false, not_false_eq_true, Int.cast_ofNat_Int, Int.natCast_nonneg, Int.toNat_natCast, ne_eq, not_true_eq_false, not_false_eq_true, Nat.reduceBEq, Nat.reduceAdd, Nat.reduceSub, Nat.reduceMul, Nat.reduceLeDiff, Nat.reduceEqDiff, Nat.reduceLT, Int.reduceNeg, Int.reduceAdd, Int.reduceSub, Int.reduceMul, Int.reduceLE, Int.reduceLT, Int.reduceEq, Int.reduceToNat, reduceCtorEq, IntWalk.i64_in, hh, hhq, List.all_append, h1, h2', h3, ofBytes_len, ofBytes_lt h4, Int.add_sub_cancel, hp0, i64_u8, (eq_false (by omega) : (n = 0) = False)]
        exact ⟨_, rfl, tmod_nn (u8_nn _ _) (by omega), .inl (tmod_lt (u8_nn _ _) (by omega))⟩
      · have k1 := tmod_idx hp0 (show 0 < bs.length by omega)
        have k2 := tmod_idx (show 0 ≤ p * 7 + 3 by omega) (show 0 < bs.length by omega)
        have k3 := tmod_nn' hp0 (show 0 < bs.length by omega)
        have k4 := tmod_nn' (show 0 ≤ p * 7 + 3 by omega) (show 0 < bs.length by omega)
        have k5 := u8_lt bs (p.tmod bs.length).toNat
        have k6 := u8_lt bs ((p * 7 + 3).tmod bs.length).toNat
        have k7 := tdiv_in hp0 (show (0 : Int) < bs.length by omega)
        simp -implicitDefEqProofs (disch := omega) only [go_sem, Nat.sub_zero, List.drop_zero, eq_self, Option.getD_none, Option.getD_some, Option.isSome_none, Option.isSome_some, Option.isNone_none, Option.isNone_some, Bool.or_false, Bool.false_or, Bool.and_false, Bool.false_and, Int.le_refl, Nat.le_refl, List.length_map, List.getElem?_map, Int.natCast_add, Int.natCast_one, List.append_assoc, List.length_append, Nat.add_assoc, and_self, and_true, true_and, and_false, false_and, or_true, true_or, or_false, false_or, not_true_eq_false, not_false_eq_true, Int.cast_ofNat_Int, Int.natCast_nonneg, Int.toNat_natCast, ne_eq, not_true_eq_false, not_false_eq_true, Nat.reduceBEq, Nat.reduceAdd, Nat.reduceSub, Nat.reduceMul, Nat.reduceLeDiff, Nat.reduceEqDiff, Nat.reduceLT, Int.reduceNeg, Int.reduceAdd, Int.reduceSub, Int.reduceMul, Int.reduceLE, Int.reduceLT, Int.reduceEq, Int.reduceToNat, reduceCtorEq, evC_draw, evD65x0, E65x0, IntWalk.i64_in, hh, hhq, List.all_append, h1, h2', h3, ofBytes_len, Int.add_sub_cancel, hp0, i64_u8, (eq_false (by omega) : (n = 0) = False), k3, k4, ofBytes_lt k1, ofBytes_lt k2, tdiv64]
        refine ⟨_, rfl, tmod_nn (xor_nn ?_ ?_ ?_ ?_) (by omega), .inl (tmod_lt (xor_nn ?_ ?_ ?_ ?_) (by omega))⟩ <;> omega

-- find134
theorem ex_odd {d : Nat} {hp t : Heap} {c : Bool} {bs : List UInt8} {p n : Int} {X : Option (V × Heap)} (hx : callS (runD tab noExt (d + 2)) (hp ++ .box [.sl c 1 (cellsOfBytes bs), .int .i64 (p)] :: t) 134 [.ptr hp.length 0 0 0, .int .i64 n] false = X)
    (hp0 : 0 ≤ p) (hq : p ≤ 1099511627776) (hb : bs.length ≤ 2000) (hhp : plainH hp = true) (ht : plainH t = true) :
    ∃ b p', X = some (.bool b, hp ++ .box [.sl c 1 (cellsOfBytes bs), .int .i64 (p')] :: t) ∧ p ≤ p' ∧ p' ≤ p + 1 ∧ (n ≤ 0 → b = false) := by
  subst hx
  have hh : ∀ n, t.all (hiB n) = true := fun n => plainH_hi ht n
  have hhq : ∀ n, hp.all (hiB n) = true := fun n => plainH_hi hhp n
  rw [callS_eq, runD_eq find134 _ _ _ (by simp)]
  by_cases h1 : 0 < n
  · generalize hP : (fun (p' : Int) (b : Bool) => p ≤ p' ∧ p' ≤ p + 1 ∧ (n ≤ 0 → b = false)) = P
    simp -implicitDefEqProofs only [go_sem, Nat.sub_zero, List.drop_zero, eq_self, Option.getD_none, Option.getD_some, Option.isSome_none, Option.isSome_some, Option.isNone_none, Option.isNone_some, Bool.or_false, Bool.false_or, Bool.and_false, Bool.false_and, Int.le_refl, Nat.le_refl, List.length_map, List.getElem?_map, Int.natCast_add, Int.natCast_one, List.append_assoc, List.length_append, Nat.add_assoc, and_self, and_true, true_and, and_false, false_and, or_true, true_or, or_false, false_or, not_true_eq_false, not_false_eq_true, Int.cast_ofNat_Int, Int.natCast_nonneg, Int.toNat_natCast, ne_eq, not_true_eq_false, not_false_eq_true, Nat.reduceBEq, Nat.reduceAdd, Nat.reduceSub, Nat.reduceMul, Nat.reduceLeDiff, Nat.reduceEqDiff, Nat.reduceLT, Int.reduceNeg, Int.reduceAdd, Int.reduceSub, Int.reduceMul, Int.reduceLE, Int.reduceLT, Int.reduceEq, Int.reduceToNat, reduceCtorEq, h1]
    generalize hx : callS (runD tab noExt _) _ 65 _ _ = X
    obtain ⟨m, rfl, hm⟩ := ex_pick hx hp0 hq hb hhp ht
    simp -implicitDefEqProofs only [go_sem, Nat.sub_zero, List.drop_zero, eq_self, Option.getD_none, Option.getD_some, Option.isSome_none, Option.isSome_some, Option.isNone_none, Option.isNone_some, Bool.or_false, Bool.false_or, Bool.and_false, Bool.false_and, Int.le_refl, Nat.le_refl, List.length_map, List.getElem?_map, Int.natCast_add, Int.natCast_one, List.append_assoc, List.length_append, Nat.add_assoc, and_self, and_true, true_and, and_false, false_and, or_true, true_or, or_false, false_or, not_true_eq_false, not_false_eq_true, Int.cast_ofNat_Int, Int.natCast_nonneg, Int.toNat_natCast, ne_eq, not_true_eq_false, not_false_eq_true, Nat.reduceBEq, Nat.reduceAdd, Nat.reduceSub, Nat.reduceMul, Nat.reduceLeDiff, Nat.reduceEqDiff, Nat.reduceLT, Int.reduceNeg, Int.reduceAdd, Int.reduceSub, Int.reduceMul, Int.reduceLE, Int.reduceLT, Int.reduceEq, Int.reduceToNat, reduceCtorEq, hh, hhq, List.all_append]
    exact ⟨_, _, rfl, by omega, by omega, fun h => by omega⟩
  · simp -implicitDefEqProofs only [go_sem, Nat.sub_zero, List.drop_zero, eq_self, Option.getD_none, Option.getD_some, Option.isSome_none, Option.isSome_some, Option.isNone_none, Option.isNone_some, Bool.or_false, Bool.false_or, Bool.and_false, Bool.false_and, Int.le_refl, Nat.le_refl, List.length_map, List.getElem?_map, Int.natCast_add, Int.natCast_one, List.append_assoc, List.length_append, Nat.add_assoc, and_self, and_true, true_and, and_false, false_and, or_true, true_or, or_false, false_or, not_true_eq_false, not_false_eq_true, Int.cast_ofNat_Int, Int.natCast_nonneg, Int.toNat_natCast, ne_eq, not_true_eq_false, not_false_eq_true, Nat.reduceBEq, Nat.reduceAdd, Nat.reduceSub, Nat.reduceMul, Nat.reduceLeDiff, Nat.reduceEqDiff, Nat.reduceLT, Int.reduceNeg, Int.reduceAdd, Int.reduceSub, Int.reduceMul, Int.reduceLE, Int.reduceLT, Int.reduceEq, Int.reduceToNat, reduceCtorEq, hh, hhq, List.all_append, h1]
    exact ⟨_, _, rfl, by omega, by omega, fun _ => rfl⟩
end Go.Proofs.Ytgepapgabnaonaa.PE
