/- Rows that are drawn for columns fit them. -/
import Derived.Test.YtgepapgabnaonaaPy1
import Derived.Test.YtgepapgabnaonaaPv7
set_option linter.unusedSimpArgs false
set_option linter.unusedVariables false
set_option maxHeartbeats 4000000
namespace Go.Proofs.Ytgepapgabnaonaa.PE
open Go.RowKit

def FitC (cs : List Col) (cont : List (List V)) : Prop := ∃ vs : List Val, cont = vs.map Val.cells ∧ ∀ (i : Nat) (v : Val), vs[i]? = some v → ∃ c : Col, cs[i]? = some c ∧ LikePost c.kind c.empty v
theorem FitC.nil (cs : List Col) : FitC cs [] := ⟨[], rfl, fun i v h => by simp at h⟩
theorem FitC.snoc {cs : List Col} {cont : List (List V)} {v : Val} {c : Col} (h : FitC cs cont) (hc : cs[cont.length]? = some c) (hv : LikePost c.kind c.empty v) : FitC cs (cont ++ [v.cells]) := by
  obtain ⟨vs, rfl, h2⟩ := h
  refine ⟨vs ++ [v], by simp, fun i w hw => ?_⟩
  simp only [List.length_map] at hc
  rcases Nat.lt_trichotomy i vs.length with h3 | h3 | h3
  · rw [List.getElem?_append_left h3] at hw; exact h2 i w hw
  · subst h3
    simp at hw
    subst hw
    exact ⟨c, hc, hv⟩
  · rw [List.getElem?_eq_none (by simp; omega)] at hw; cases hw
theorem loop_fitV {d : Nat} {hp t : Heap} {c c2 : Bool} {bs : List UInt8} {n : Int} {cs : List Col} (hb : bs.length ≤ 2000) (hhp : plainH hp = true) (ht : plainH t = true) (hcs : cs.length ≤ 1000) : ∀ (j K : Nat) {p k : Int} {st len : Nat} {cont : List (List V)} {Y : Out},
    LoopS (runD tab noExt (d + 2)) (drawI (runD tab noExt (d + 2))) [0, 1, 2, 7, 8] [0, 2, 7] L93x0 (hp.length + (t.length + 3)) K [(0, .ptr hp.length 0 0 0), (1, .sl c2 2 (cs.map Col.cells)), (2, .int .i64 n), (7, .ref (hp.length + (t.length + 2)) st 0 len false), (8, .int .i64 k)]
      (hp ++ .box [.sl c 1 (cellsOfBytes bs), .int .i64 (p)] :: (t ++ [.rows 0 3 [], .rows st 3 cont])) = Y →
    0 ≤ k → k + j = cs.length → j ≤ K → len = cont.length → k = cont.length → FitC cs cont → 0 ≤ p → p + 2 * j ≤ 1099511000000 → ∃ cont' st' p', Y = some (.exit 0, [(0, .ptr hp.length 0 0 0), (2, .int .i64 n), (7, .ref (hp.length + (t.length + 2)) st' 0 cont'.length false)],
      hp ++ .box [.sl c 1 (cellsOfBytes bs), .int .i64 (p')] :: (t ++ [.rows 0 3 [], .rows st' 3 cont'])) ∧ FitC cs cont' ∧ cont'.length = cs.length ∧ p ≤ p' ∧ p' ≤ p + 2 * j := by
  have hh : ∀ n, t.all (hiB n) = true := fun n => plainH_hi ht n
  have hhq : ∀ n, hp.all (hiB n) = true := fun n => plainH_hi hhp n
  intro j
  induction j with
  | zero =>
    intro K p k st len cont Y hL hk0 hk hK hlen hkc hc hp0 hq
    have hk' : k = cs.length := by omega
    subst hL hk' hlen
    rw [LoopS_eq]
    simp -implicitDefEqProofs only [go_sem, Nat.sub_zero, List.drop_zero, eq_self, Option.getD_none, Option.getD_some, Option.isSome_none, Option.isSome_some, Option.isNone_none, Option.isNone_some, Bool.or_false, Bool.false_or, Bool.and_false, Bool.false_and, Int.le_refl, Nat.le_refl, List.length_map, List.getElem?_map, Int.natCast_add, Int.natCast_one, List.append_assoc, List.length_append, Nat.add_assoc, and_self, and_true, true_and, and_false, false_and, or_true, true_or, or_false, false_or, not_true_eq_false, not_false_eq_true, Int.cast_ofNat_Int, Int.natCast_nonneg, Int.toNat_natCast, ne_eq, not_true_eq_false, not_false_eq_true, Nat.reduceBEq, Nat.reduceAdd, Nat.reduceSub, Nat.reduceMul, Nat.reduceLeDiff, Nat.reduceEqDiff, Nat.reduceLT, Int.reduceNeg, Int.reduceAdd, Int.reduceSub, Int.reduceMul, Int.reduceLE, Int.reduceLT, Int.reduceEq, Int.reduceToNat, reduceCtorEq, evL93x0, B93x0, hh, hhq, List.all_append, Int.lt_irrefl]
    exact ⟨cont, st, p, rfl, hc, by omega, by omega, by omega⟩
  | succ j ih =>
    intro K p k st len cont Y hL hk0 hk hK hlen hkc hc hp0 hq
    obtain ⟨K, rfl⟩ : ∃ K', K = K' + 1 := ⟨K - 1, by omega⟩
    subst hL hlen
    have hk1 : k < cs.length := by omega
    have h1 : cont.length + 1 < 4294967296 := by omega
    have hat := at_getD (⟨0, false⟩ : Col) (show k.toNat < cs.length by omega)
    have hat' : cs[cont.length]? = some (cs.getD k.toNat ⟨0, false⟩) := by rw [← hat]; congr 1; omega
    have hkc1 : k ≤ cont.length := by omega
    have hkc2 : (cont.length : Int) ≤ k := by omega
    clear hkc
    rw [LoopS_eq]
    simp -implicitDefEqProofs (disch := omega) only [go_sem, Nat.sub_zero, List.drop_zero, eq_self, Option.getD_none, Option.getD_some, Option.isSome_none, Option.isSome_some, Option.isNone_none, Option.isNone_some, Bool.or_false, Bool.false_or, Bool.and_false, Bool.false_and, Int.le_refl, Nat.le_refl, List.length_map, List.getElem?_map, Int.natCast_add, Int.natCast_one, List.append_assoc, List.length_append, Nat.add_assoc, and_self, and_true, true_and, and_false, false_and, or_true, true_or, or_false, false_or, not_true_eq_false, not_false_eq_true, Int.cast_ofNat_Int, Int.natCast_nonneg, Int.toNat_natCast, ne_eq, not_true_eq_false, not_false_eq_true, Nat.reduceBEq, Nat.reduceAdd, Nat.reduceSub, Nat.reduceMul, Nat.reduceLeDiff, Nat.reduceEqDiff, Nat.reduceLT, Int.reduceNeg, Int.reduceAdd, Int.reduceSub, Int.reduceMul, Int.reduceLE, Int.reduceLT, Int.reduceEq, Int.reduceToNat, reduceCtorEq, evL93x0, B93x0, hh, hhq, hk0, hk1, hat, Col.cells, List.all_append]
    generalize hx : callS (runD tab noExt _) _ 139 _ false = X
    obtain ⟨v, p1, rfl, g1, g2, g3⟩ := ex_likeV hx (by omega) (by omega) hb hhp (by simp only [ht, plainH_nil, plainH_cons, plainH_append, plainB, List.all_cons, List.all_nil, Bool.and_self, Bool.and_true])
    clear hx
    simp -implicitDefEqProofs (disch := omega) only [go_sem, Nat.sub_zero, List.drop_zero, eq_self, Option.getD_none, Option.getD_some, Option.isSome_none, Option.isSome_some, Option.isNone_none, Option.isNone_some, Bool.or_false, Bool.false_or, Bool.and_false, Bool.false_and, Int.le_refl, Nat.le_refl, List.length_map, List.getElem?_map, Int.natCast_add, Int.natCast_one, List.append_assoc, List.length_append, Nat.add_assoc, and_self, and_true, true_and, and_false, false_and, or_true, true_or, or_false, false_or, not_true_eq_false, not_false_eq_true, Int.cast_ofNat_Int, Int.natCast_nonneg, Int.toNat_natCast, ne_eq, not_true_eq_false, not_false_eq_true, Nat.reduceBEq, Nat.reduceAdd, Nat.reduceSub, Nat.reduceMul, Nat.reduceLeDiff, Nat.reduceEqDiff, Nat.reduceLT, Int.reduceNeg, Int.reduceAdd, Int.reduceSub, Int.reduceMul, Int.reduceLE, Int.reduceLT, Int.reduceEq, Int.reduceToNat, reduceCtorEq, hh, hhq, List.all_append, IntWalk.i64_in, Val.enc, h1]
    generalize hL : LoopS _ _ _ _ _ _ _ _ _ = Y
    obtain ⟨cont', st', p', rfl, h2, h3, h4, h5⟩ := ih K hL (by omega) (by omega) (by omega) (by simp) (by simp; omega) (hc.snoc hat' g3) (by omega) (by omega)
    exact ⟨cont', st', p', rfl, h2, h3, by omega, by omega⟩
-- find93
theorem ex_fitV {d : Nat} {hp t : Heap} {c c2 : Bool} {bs : List UInt8} {p : Int} {cs : List Col} {X : Option (V × Heap)} (hx : callS (runD tab noExt (d + 4)) (hp ++ .box [.sl c 1 (cellsOfBytes bs), .int .i64 (p)] :: t) 93 [.ptr hp.length 0 0 0, .sl c2 2 (cs.map Col.cells), .int .i64 0] false = X)
    (hp0 : 0 ≤ p) (hq : p ≤ 1099500000000) (hb : bs.length ≤ 2000) (hhp : plainH hp = true) (ht : plainH t = true) (hok : colsOk cs = true) :
    ∃ (vs : List Val) (p' : Int), X = some (.sl false 3 (vs.map Val.cells), hp ++ .box [.sl c 1 (cellsOfBytes bs), .int .i64 (p')] :: t) ∧ p ≤ p' ∧ p' ≤ p + 20 ∧ fitsRow cs vs = true ∧ ∀ v ∈ vs, v.s.size ≤ 20 := by
  subst hx
  have hlen : cs.length ≤ 4 := by simp only [colsOk, Bool.and_eq_true, decide_eq_true_eq] at hok; exact hok.2
  have hh : ∀ n, t.all (hiB n) = true := fun n => plainH_hi ht n
  have hhq : ∀ n, hp.all (hiB n) = true := fun n => plainH_hi hhp n
  rw [callS_eq, runD_eq find93 _ _ _ (by simp)]
  simp -implicitDefEqProofs (disch := omega) only [go_sem, Nat.sub_zero, List.drop_zero, eq_self, Option.getD_none, Option.getD_some, Option.isSome_none, Option.isSome_some, Option.isNone_none, Option.isNone_some, Bool.or_false, Bool.false_or, Bool.and_false, Bool.false_and, Int.le_refl, Nat.le_refl, List.length_map, List.getElem?_map, Int.natCast_add, Int.natCast_one, List.append_assoc, List.length_append, Nat.add_assoc, and_self, and_true, true_and, and_false, false_and, or_true, true_or, or_false, false_or, not_true_eq_false, not_false_eq_true, Int.cast_ofNat_Int, Int.natCast_nonneg, Int.toNat_natCast, ne_eq, not_true_eq_false, not_false_eq_true, Nat.reduceBEq, Nat.reduceAdd, Nat.reduceSub, Nat.reduceMul, Nat.reduceLeDiff, Nat.reduceEqDiff, Nat.reduceLT, Int.reduceNeg, Int.reduceAdd, Int.reduceSub, Int.reduceMul, Int.reduceLE, Int.reduceLT, Int.reduceEq, Int.reduceToNat, reduceCtorEq, hh, hhq, List.all_append]
  generalize hx : LoopS _ _ _ _ _ _ _ _ _ = Y
  obtain ⟨cont, st, p1, rfl, h1, h2, h3, h4⟩ := loop_fitV hb hhp ht (by omega) cs.length _ hx (by omega) (by omega) (by omega) rfl rfl (FitC.nil cs) (by omega) (by omega)
  clear hx
  have h4' : p1 ≤ p + 8 := by omega
  clear h4
  obtain ⟨vs, rfl, hv⟩ := h1
  have hl : vs.length = cs.length := by simpa using h2
  clear h2
  simp -implicitDefEqProofs (disch := omega) only [go_sem, Nat.sub_zero, List.drop_zero, eq_self, Option.getD_none, Option.getD_some, Option.isSome_none, Option.isSome_some, Option.isNone_none, Option.isNone_some, Bool.or_false, Bool.false_or, Bool.and_false, Bool.false_and, Int.le_refl, Nat.le_refl, List.length_map, List.getElem?_map, Int.natCast_add, Int.natCast_one, List.append_assoc, List.length_append, Nat.add_assoc, and_self, and_true, true_and, and_false, false_and, or_true, true_or, or_false, false_or, not_true_eq_false, not_false_eq_true, Int.cast_ofNat_Int, Int.natCast_nonneg, Int.toNat_natCast, ne_eq, not_true_eq_false, not_false_eq_true, Nat.reduceBEq, Nat.reduceAdd, Nat.reduceSub, Nat.reduceMul, Nat.reduceLeDiff, Nat.reduceEqDiff, Nat.reduceLT, Int.reduceNeg, Int.reduceAdd, Int.reduceSub, Int.reduceMul, Int.reduceLE, Int.reduceLT, Int.reduceEq, Int.reduceToNat, reduceCtorEq, hh, hhq, List.all_append]
  generalize hx : callS (runD tab noExt _) _ 134 _ false = X
  obtain ⟨b, p2, rfl, g1, g2, g3⟩ := ex_odd hx (by omega) (by omega) hb hhp (by simp only [ht, plainH_nil, plainH_cons, plainH_append, plainB, List.all_cons, List.all_nil, Bool.and_self, Bool.and_true])
  clear hx
  have hb0 := g3 (by omega)
  subst hb0
  simp -implicitDefEqProofs (disch := omega) only [go_sem, Nat.sub_zero, List.drop_zero, eq_self, Option.getD_none, Option.getD_some, Option.isSome_none, Option.isSome_some, Option.isNone_none, Option.isNone_some, Bool.or_false, Bool.false_or, Bool.and_false, Bool.false_and, Int.le_refl, Nat.le_refl, List.length_map, List.getElem?_map, Int.natCast_add, Int.natCast_one, List.append_assoc, List.length_append, Nat.add_assoc, and_self, and_true, true_and, and_false, false_and, or_true, true_or, or_false, false_or, not_true_eq_false, not_false_eq_true, Int.cast_ofNat_Int, Int.natCast_nonneg, Int.toNat_natCast, ne_eq, not_true_eq_false, not_false_eq_true, Nat.reduceBEq, Nat.reduceAdd, Nat.reduceSub, Nat.reduceMul, Nat.reduceLeDiff, Nat.reduceEqDiff, Nat.reduceLT, Int.reduceNeg, Int.reduceAdd, Int.reduceSub, Int.reduceMul, Int.reduceLE, Int.reduceLT, Int.reduceEq, Int.reduceToNat, reduceCtorEq, hh, hhq, List.all_append]
  have hkinds : ∀ (i : Nat) (c : Col), cs[i]? = some c → 1 ≤ c.kind ∧ c.kind ≤ 3 := fun i c hc => by
    simp only [colsOk, Bool.and_eq_true, List.all_eq_true] at hok
    have := hok.1 c (List.mem_of_getElem? hc)
    simpa [Col.ok] using this
  have hall : ∀ v ∈ vs, v.ok = true ∧ v.s.size ≤ 20 := fun v hvm => by
    obtain ⟨i, hi⟩ := List.mem_iff_getElem?.1 hvm
    obtain ⟨c, hc, hp1, hp2⟩ := hv i v hi
    obtain ⟨k1, k2⟩ := hkinds i c hc
    exact ⟨(hp2 k1 k2).1, hp1⟩
  refine ⟨vs, p2, rfl, by omega, by omega, ?_, fun v hvm => (hall v hvm).2⟩
  simp only [fitsRow, hok, Bool.true_and, Bool.and_eq_true, decide_eq_true_eq, rowOk, List.all_eq_true]
  refine ⟨⟨⟨fun v hvm => (hall v hvm).1, by omega⟩, hl⟩, fun q hq' => ?_⟩
  obtain ⟨i, hi⟩ := List.mem_iff_getElem?.1 hq'
  obtain ⟨z1, z2⟩ := List.getElem?_zip_eq_some.1 hi
  obtain ⟨c, hc, hp1, hp2⟩ := hv i q.2 z2
  rw [z1] at hc
  injection hc with hc
  subst hc
  obtain ⟨k1, k2⟩ := hkinds i q.1 z1
  have := (hp2 k1 k2).2
  simp only [fits1, Bool.or_eq_true, Bool.and_eq_true, decide_eq_true_eq]
  exact this
end Go.Proofs.Ytgepapgabnaonaa.PE
