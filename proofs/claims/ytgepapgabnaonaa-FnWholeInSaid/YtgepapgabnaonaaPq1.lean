/- Whether a value is one of a list, in three values: the program's and the reference's. -/
import Derived.Test.YtgepapgabnaonaaPq0
import Derived.Test.YtgepapgabnaonaaPwc
set_option linter.unusedSimpArgs false
set_option linter.unusedVariables false
set_option maxHeartbeats 4000000
namespace Go.Proofs.Ytgepapgabnaonaa.PE
open Go.RowKit

def eqB (v w : Val) : Bool := decide (v.kind = w.kind) && (decide (v.n = w.n) && decide (v.s = w.s))
theorem eqB_iff {v w : Val} : eqB v w = true ↔ v = w := by
  obtain ⟨k, n, s⟩ := v
  obtain ⟨k', n', s'⟩ := w
  simp [eqB, Val.mk.injEq]
theorem eqB_eq (v w : Val) : eqB v w = decide (v = w) := by
  by_cases h : v = w
  · rw [eqB_iff.2 h]; simp [h]
  · cases hb : eqB v w
    · simp [h]
    · exact absurd (eqB_iff.1 hb) h
theorem loop_index (d : Nat) (c : Bool) (v : Val) (ws : List Val) (hs : ws.length < 1099511627776) (K : Nat) (hK : ws.length ≤ K) :
    LoopS (runD tab noExt d) (drawI (runD tab noExt d)) [0, 3, 7, 8] [4] L167x0 1 K [(0, .sl c 3 (ws.map Val.cells)), (3, .ptr 0 0 0 0), (7, .int .i64 (ws.length : Int)), (8, .int .i64 0)] [.box v.cells] =
      (match ws.findIdx? (eqB v) with
        | some k => (some (.ret, [(4, .int .i64 (k : Int))], [.box v.cells]) : Out)
        | none => some (.exit 0, [(4, .undef)], [.box v.cells])) := by
  have key := LoopS_rec (run := runD tab noExt d) (draw := drawI (runD tab noExt d)) (live := [0, 3, 7, 8]) (out := [4]) (c := L167x0) (n0 := 1) ws (fun (i : Nat) (_ : Unit) => [(0, .sl c 3 (ws.map Val.cells)), (3, .ptr 0 0 0 0), (7, .int .i64 (ws.length : Int)), (8, .int .i64 i)]) (fun _ _ => [.box v.cells])
    (fun r _ => match r.findIdx? (eqB v) with
        | some k => (some (.ret, [(4, .int .i64 (ws.length - r.length + k : Int))], [.box v.cells]) : Out)
        | none => some (.exit 0, [(4, .undef)], [.box v.cells])) (fun _ K => ?_) (fun (i : Nat) x r _ K hi hx hr ih => ?_) K hK ()
  · simp only [Int.natCast_zero, Int.sub_self, Int.zero_add] at key
    exact key
  · rw [LoopS_eq]
    simp -implicitDefEqProofs only [go_sem, Nat.sub_zero, List.drop_zero, eq_self, Option.getD_none, Option.getD_some, Option.isSome_none, Option.isSome_some, Option.isNone_none, Option.isNone_some, Bool.or_false, Bool.false_or, Bool.and_false, Bool.false_and, Int.le_refl, Nat.le_refl, List.length_map, List.getElem?_map, Int.natCast_add, Int.natCast_one, List.append_assoc, List.length_append, Nat.add_assoc, and_self, and_true, true_and, and_false, false_and, or_true, true_or, or_false, false_or, not_true_eq_false, not_false_eq_true, Int.cast_ofNat_Int, Int.natCast_nonneg, Int.toNat_natCast, ne_eq, not_true_eq_false, not_false_eq_true, Nat.reduceBEq, Nat.reduceAdd, Nat.reduceSub, Nat.reduceMul, Nat.reduceLeDiff, Nat.reduceEqDiff, Nat.reduceLT, Int.reduceNeg, Int.reduceAdd, Int.reduceSub, Int.reduceMul, Int.reduceLE, Int.reduceLT, Int.reduceEq, Int.reduceToNat, reduceCtorEq, evL167x0, B167x0, Int.lt_irrefl, List.findIdx?_nil]
  · have hlen : (ws.length : Int) - (r.length + 1) = i := by omega
    rw [LoopS_eq, List.findIdx?_cons]
    cases hp : eqB v x
    · have hp' := hp
      unfold eqB at hp'
      simp -implicitDefEqProofs (disch := omega) only [go_sem, Nat.sub_zero, List.drop_zero, eq_self, Option.getD_none, Option.getD_some, Option.isSome_none, Option.isSome_some, Option.isNone_none, Option.isNone_some, Bool.or_false, Bool.false_or, Bool.and_false, Bool.false_and, Int.le_refl, Nat.le_refl, List.length_map, List.getElem?_map, Int.natCast_add, Int.natCast_one, List.append_assoc, List.length_append, Nat.add_assoc, and_self, and_true, true_and, and_false, false_and, or_true, true_or, or_false, false_or, not_true_eq_false, not_false_eq_true, Int.cast_ofNat_Int, Int.natCast_nonneg, Int.toNat_natCast, ne_eq, not_true_eq_false, not_false_eq_true, Nat.reduceBEq, Nat.reduceAdd, Nat.reduceSub, Nat.reduceMul, Nat.reduceLeDiff, Nat.reduceEqDiff, Nat.reduceLT, Int.reduceNeg, Int.reduceAdd, Int.reduceSub, Int.reduceMul, Int.reduceLE, Int.reduceLT, Int.reduceEq, Int.reduceToNat, reduceCtorEq, evL167x0, B167x0, evC_draw, evD167x0, E167x0, hi, hx, Val.cells, hp', hp, IntWalk.i64_in]
      have ih' := ih ()
      simp only [Int.natCast_add, Int.natCast_one, Val.cells] at ih'
      rw [ih']
      cases hf : r.findIdx? (eqB v) with
      | none => rfl
      | some k => simp; omega
    · have hp' := hp
      unfold eqB at hp'
      simp -implicitDefEqProofs (disch := omega) only [go_sem, Nat.sub_zero, List.drop_zero, eq_self, Option.getD_none, Option.getD_some, Option.isSome_none, Option.isSome_some, Option.isNone_none, Option.isNone_some, Bool.or_false, Bool.false_or, Bool.and_false, Bool.false_and, Int.le_refl, Nat.le_refl, List.length_map, List.getElem?_map, Int.natCast_add, Int.natCast_one, List.append_assoc, List.length_append, Nat.add_assoc, and_self, and_true, true_and, and_false, false_and, or_true, true_or, or_false, false_or, not_true_eq_false, not_false_eq_true, Int.cast_ofNat_Int, Int.natCast_nonneg, Int.toNat_natCast, ne_eq, not_true_eq_false, not_false_eq_true, Nat.reduceBEq, Nat.reduceAdd, Nat.reduceSub, Nat.reduceMul, Nat.reduceLeDiff, Nat.reduceEqDiff, Nat.reduceLT, Int.reduceNeg, Int.reduceAdd, Int.reduceSub, Int.reduceMul, Int.reduceLE, Int.reduceLT, Int.reduceEq, Int.reduceToNat, reduceCtorEq, evL167x0, B167x0, evC_draw, evD167x0, E167x0, hi, hx, Val.cells, hp', hp, IntWalk.i64_in, hlen]
      simp [hlen]
-- find146
theorem run_contains (d : Nat) (c : Bool) (vk vn : Int) (vq : ByteArray) (ws : List Val) (hs : ws.length < 1099511627776) : retP (runD tab noExt (d + 2)) 146 [.sl c 3 (ws.map Val.cells), .agg [.int .i64 vk, .int .i64 vn, .str vq]] = some [.bool (ws.any (eqB (⟨vk, vn, vq⟩ : Val)))] := by
  rw [retP, runD_eq find146 _ _ _ (by simp)]
  have e : ws.any (eqB (⟨vk, vn, vq⟩ : Val)) = (ws.findIdx? (eqB (⟨vk, vn, vq⟩ : Val))).isSome := by simp [List.findIdx?_isSome]
  have hi : retP (runD tab noExt (d + 1)) 167 [.sl c 3 (ws.map Val.cells), .agg [.int .i64 vk, .int .i64 vn, .str vq]] = some [.int .i64 (match ws.findIdx? (eqB (⟨vk, vn, vq⟩ : Val)) with | some k => (k : Int) | none => -1)] := by
    rw [retP, runD_eq find167 _ _ _ (by simp)]
    have hl := loop_index d c (⟨vk, vn, vq⟩ : Val) ws hs 1099511627775 (by omega)
    simp -implicitDefEqProofs (disch := omega) only [go_sem, Nat.sub_zero, List.drop_zero, eq_self, Option.getD_none, Option.getD_some, Option.isSome_none, Option.isSome_some, Option.isNone_none, Option.isNone_some, Bool.or_false, Bool.false_or, Bool.and_false, Bool.false_and, Int.le_refl, Nat.le_refl, List.length_map, List.getElem?_map, Int.natCast_add, Int.natCast_one, List.append_assoc, List.length_append, Nat.add_assoc, and_self, and_true, true_and, and_false, false_and, or_true, true_or, or_false, false_or, not_true_eq_false, not_false_eq_true, Int.cast_ofNat_Int, Int.natCast_nonneg, Int.toNat_natCast, ne_eq, not_true_eq_false, not_false_eq_true, Nat.reduceBEq, Nat.reduceAdd, Nat.reduceSub, Nat.reduceMul, Nat.reduceLeDiff, Nat.reduceEqDiff, Nat.reduceLT, Int.reduceNeg, Int.reduceAdd, Int.reduceSub, Int.reduceMul, Int.reduceLE, Int.reduceLT, Int.reduceEq, Int.reduceToNat, reduceCtorEq, Val.cells] at hl ⊢
    rw [hl]
    cases hf : ws.findIdx? (eqB (⟨vk, vn, vq⟩ : Val)) <;> simp -implicitDefEqProofs only [go_sem, Nat.sub_zero, List.drop_zero, eq_self, Option.getD_none, Option.getD_some, Option.isSome_none, Option.isSome_some, Option.isNone_none, Option.isNone_some, Bool.or_false, Bool.false_or, Bool.and_false, Bool.false_and, Int.le_refl, Nat.le_refl, List.length_map, List.getElem?_map, Int.natCast_add, Int.natCast_one, List.append_assoc, List.length_append, Nat.add_assoc, and_self, and_true, true_and, and_false, false_and, or_true, true_or, or_false, false_or, not_true_eq_false, not_false_eq_true, Int.cast_ofNat_Int, Int.natCast_nonneg, Int.toNat_natCast, ne_eq, not_true_eq_false, not_false_eq_true, Nat.reduceBEq, Nat.reduceAdd, Nat.reduceSub, Nat.reduceMul, Nat.reduceLeDiff, Nat.reduceEqDiff, Nat.reduceLT, Int.reduceNeg, Int.reduceAdd, Int.reduceSub, Int.reduceMul, Int.reduceLE, Int.reduceLT, Int.reduceEq, Int.reduceToNat, reduceCtorEq]
  simp -implicitDefEqProofs (disch := omega) only [go_sem, Nat.sub_zero, List.drop_zero, eq_self, Option.getD_none, Option.getD_some, Option.isSome_none, Option.isSome_some, Option.isNone_none, Option.isNone_some, Bool.or_false, Bool.false_or, Bool.and_false, Bool.false_and, Int.le_refl, Nat.le_refl, List.length_map, List.getElem?_map, Int.natCast_add, Int.natCast_one, List.append_assoc, List.length_append, Nat.add_assoc, and_self, and_true, true_and, and_false, false_and, or_true, true_or, or_false, false_or, not_true_eq_false, not_false_eq_true, Int.cast_ofNat_Int, Int.natCast_nonneg, Int.toNat_natCast, ne_eq, not_true_eq_false, not_false_eq_true, Nat.reduceBEq, Nat.reduceAdd, Nat.reduceSub, Nat.reduceMul, Nat.reduceLeDiff, Nat.reduceEqDiff, Nat.reduceLT, Int.reduceNeg, Int.reduceAdd, Int.reduceSub, Int.reduceMul, Int.reduceLE, Int.reduceLT, Int.reduceEq, Int.reduceToNat, reduceCtorEq, hi]
  rw [e]
  cases hf : ws.findIdx? (eqB (⟨vk, vn, vq⟩ : Val)) <;> simp -implicitDefEqProofs only [go_sem, Nat.sub_zero, List.drop_zero, eq_self, Option.getD_none, Option.getD_some, Option.isSome_none, Option.isSome_some, Option.isNone_none, Option.isNone_some, Bool.or_false, Bool.false_or, Bool.and_false, Bool.false_and, Int.le_refl, Nat.le_refl, List.length_map, List.getElem?_map, Int.natCast_add, Int.natCast_one, List.append_assoc, List.length_append, Nat.add_assoc, and_self, and_true, true_and, and_false, false_and, or_true, true_or, or_false, false_or, not_true_eq_false, not_false_eq_true, Int.cast_ofNat_Int, Int.natCast_nonneg, Int.toNat_natCast, ne_eq, not_true_eq_false, not_false_eq_true, Nat.reduceBEq, Nat.reduceAdd, Nat.reduceSub, Nat.reduceMul, Nat.reduceLeDiff, Nat.reduceEqDiff, Nat.reduceLT, Int.reduceNeg, Int.reduceAdd, Int.reduceSub, Int.reduceMul, Int.reduceLE, Int.reduceLT, Int.reduceEq, Int.reduceToNat, reduceCtorEq, Option.isSome_some, Option.isSome_none]

def inBad (v w : Val) : Bool := if w.ok then (if w.kind = v.kind then false else if w.kind = 0 then false else true) else true
def inT (v : Val) (ws : List Val) : Int :=
  if v.ok then (if (30 : Int) < ws.length then 2 else if ws.any (inBad v) then 2 else if ws.length = 0 then 0 else if v.kind = 0 then 2 else if ws.any (eqB v) then 1 else if ws.any (eqB Val.zero) then 2 else 0) else 2
-- find145
theorem clo_in (d : Nat) (vk vn : Int) (vq : ByteArray) (x : Val) : callS (runD tab noExt (d + 4)) [.box [.int .i64 vk, .int .i64 vn, .str vq]] 145 [.agg (Val.cells x), .ptr 0 0 0 0] false = some (.bool (inBad (⟨vk, vn, vq⟩ : Val) x), [.box [.int .i64 vk, .int .i64 vn, .str vq]]) := by
  rw [callS_eq, runD_eq find145 _ _ _ (by simp)]
  simp -implicitDefEqProofs (disch := omega) only [go_sem, Nat.sub_zero, List.drop_zero, eq_self, Option.getD_none, Option.getD_some, Option.isSome_none, Option.isSome_some, Option.isNone_none, Option.isNone_some, Bool.or_false, Bool.false_or, Bool.and_false, Bool.false_and, Int.le_refl, Nat.le_refl, List.length_map, List.getElem?_map, Int.natCast_add, Int.natCast_one, List.append_assoc, List.length_append, Nat.add_assoc, and_self, and_true, true_and, and_false, false_and, or_true, true_or, or_false, false_or, not_true_eq_false, not_false_eq_true, Int.cast_ofNat_Int, Int.natCast_nonneg, Int.toNat_natCast, ne_eq, not_true_eq_false, not_false_eq_true, Nat.reduceBEq, Nat.reduceAdd, Nat.reduceSub, Nat.reduceMul, Nat.reduceLeDiff, Nat.reduceEqDiff, Nat.reduceLT, Int.reduceNeg, Int.reduceAdd, Int.reduceSub, Int.reduceMul, Int.reduceLE, Int.reduceLT, Int.reduceEq, Int.reduceToNat, reduceCtorEq, run_ok, Val.cells, Val.eta]
  repeat' ((first | rw [GuardI_ndec] | rw [CondC_ndec] | rw [GuardQ_ndec] | rw [GuardI_dec] | rw [CondC_dec] | rw [GuardQ_dec] | rw [GuardI_nby] | rw [CondC_nby] | rw [GuardQ_nby] | rw [GuardQ_by] | rw [GuardI_by] | rw [CondC_by]) <;> split <;> simp -implicitDefEqProofs (disch := omega) only [go_sem, Nat.sub_zero, List.drop_zero, eq_self, Option.getD_none, Option.getD_some, Option.isSome_none, Option.isSome_some, Option.isNone_none, Option.isNone_some, Bool.or_false, Bool.false_or, Bool.and_false, Bool.false_and, Int.le_refl, Nat.le_refl, List.length_map, List.getElem?_map, Int.natCast_add, Int.natCast_one, List.append_assoc, List.length_append, Nat.add_assoc, and_self, and_true, true_and, and_false, false_and, or_true, true_or, or_false, false_or, not_true_eq_false, not_false_eq_true, Int.cast_ofNat_Int, Int.natCast_nonneg, Int.toNat_natCast, ne_eq, not_true_eq_false, not_false_eq_true, Nat.reduceBEq, Nat.reduceAdd, Nat.reduceSub, Nat.reduceMul, Nat.reduceLeDiff, Nat.reduceEqDiff, Nat.reduceLT, Int.reduceNeg, Int.reduceAdd, Int.reduceSub, Int.reduceMul, Int.reduceLE, Int.reduceLT, Int.reduceEq, Int.reduceToNat, reduceCtorEq, *])
  all_goals first | (simp only [inBad, reduceIte, if_true, if_false, Bool.false_eq_true, *]; done) | (simp_all [inBad]; done) | (simp_all [inBad]; omega) | (simp_all [inBad]; grind) | grind [inBad]
-- find102
theorem run_inT (d : Nat) (c : Bool) (vk vn : Int) (vq : ByteArray) (ws : List Val) (hs : ws.length < 1099511627776) : retP (runD tab noExt (d + 7)) 102 [.agg [.int .i64 vk, .int .i64 vn, .str vq], .sl c 3 (ws.map Val.cells)] = some [.int .i64 (inT (⟨vk, vn, vq⟩ : Val) ws)] := by
  rw [retP, runD_eq find102 _ _ _ (by simp)]
  have hcon := conVal (d + 4) [.box [.int .i64 vk, .int .i64 vn, .str vq]] c 145 [.ptr 0 0 0 0] ws (inBad (⟨vk, vn, vq⟩ : Val)) hs rfl rfl (fun x _ => clo_in d vk vn vq x)
  have hz : Val.zero = ⟨0, 0, ⟨#[]⟩⟩ := rfl
  have hl0 : ((ws.length : Int) = 0) = (ws.length = 0) := by simp
  simp -implicitDefEqProofs (disch := omega) only [go_sem, Nat.sub_zero, List.drop_zero, eq_self, Option.getD_none, Option.getD_some, Option.isSome_none, Option.isSome_some, Option.isNone_none, Option.isNone_some, Bool.or_false, Bool.false_or, Bool.and_false, Bool.false_and, Int.le_refl, Nat.le_refl, List.length_map, List.getElem?_map, Int.natCast_add, Int.natCast_one, List.append_assoc, List.length_append, Nat.add_assoc, and_self, and_true, true_and, and_false, false_and, or_true, true_or, or_false, false_or, not_true_eq_false, not_false_eq_true, Int.cast_ofNat_Int, Int.natCast_nonneg, Int.toNat_natCast, ne_eq, not_true_eq_false, not_false_eq_true, Nat.reduceBEq, Nat.reduceAdd, Nat.reduceSub, Nat.reduceMul, Nat.reduceLeDiff, Nat.reduceEqDiff, Nat.reduceLT, Int.reduceNeg, Int.reduceAdd, Int.reduceSub, Int.reduceMul, Int.reduceLE, Int.reduceLT, Int.reduceEq, Int.reduceToNat, reduceCtorEq, run_ok, hcon, hl0]
  repeat' ((first | rw [GuardI_ndec] | rw [CondC_ndec] | rw [GuardQ_ndec] | rw [GuardI_dec] | rw [CondC_dec] | rw [GuardQ_dec] | rw [GuardI_nby] | rw [CondC_nby] | rw [GuardQ_nby] | rw [GuardQ_by] | rw [GuardI_by] | rw [CondC_by]) <;> split <;> simp -implicitDefEqProofs (disch := omega) only [go_sem, Nat.sub_zero, List.drop_zero, eq_self, Option.getD_none, Option.getD_some, Option.isSome_none, Option.isSome_some, Option.isNone_none, Option.isNone_some, Bool.or_false, Bool.false_or, Bool.and_false, Bool.false_and, Int.le_refl, Nat.le_refl, List.length_map, List.getElem?_map, Int.natCast_add, Int.natCast_one, List.append_assoc, List.length_append, Nat.add_assoc, and_self, and_true, true_and, and_false, false_and, or_true, true_or, or_false, false_or, not_true_eq_false, not_false_eq_true, Int.cast_ofNat_Int, Int.natCast_nonneg, Int.toNat_natCast, ne_eq, not_true_eq_false, not_false_eq_true, Nat.reduceBEq, Nat.reduceAdd, Nat.reduceSub, Nat.reduceMul, Nat.reduceLeDiff, Nat.reduceEqDiff, Nat.reduceLT, Int.reduceNeg, Int.reduceAdd, Int.reduceSub, Int.reduceMul, Int.reduceLE, Int.reduceLT, Int.reduceEq, Int.reduceToNat, reduceCtorEq, hcon, run_contains, hl0, *])
  all_goals first | (simp only [inT, hz, reduceIte, if_true, if_false, Bool.false_eq_true, *]; done) | (simp_all [inT, hz]; done) | (simp_all [inT, hz]; omega) | (simp_all [inT, hz]; grind) | grind [inT, hz]

/-- The reference's: value by value. -/
def inF (v : Val) : List Val → Int → Bool × Int
  | [], o => (false, o)
  | w :: r, o => if w.ok then (if v.kind = 0 then inF v r (foldT o (cmpV 1 v w) 1) else if w.kind = 0 then inF v r (foldT o (cmpV 1 v w) 1) else if v.kind = w.kind then inF v r (foldT o (cmpV 1 v w) 1) else (true, o)) else (true, o)
def inO (p : Bool × Int) (b : List V) : Out := if p.1 then some (.ret, [(4, .int .i64 2), (5, .int .i64 p.2)], [.box b]) else some (.exit 0, [(4, .undef), (5, .int .i64 p.2)], [.box b])
def inR (v : Val) (ws : List Val) : Int := if v.ok then (if (30 : Int) < ws.length then 2 else if (inF v ws 0).1 then 2 else (inF v ws 0).2) else 2
theorem run_truthOkR (d : Nat) (n : Int) : retP (runD tab noExt (d + 2)) 147 [.int .i64 n] = some [.bool (truthOk n)] := by
  rw [retP, runD_eq find147 _ _ _ (by simp)]
  simp -implicitDefEqProofs (disch := omega) only [go_sem, Nat.sub_zero, List.drop_zero, eq_self, Option.getD_none, Option.getD_some, Option.isSome_none, Option.isSome_some, Option.isNone_none, Option.isNone_some, Bool.or_false, Bool.false_or, Bool.and_false, Bool.false_and, Int.le_refl, Nat.le_refl, List.length_map, List.getElem?_map, Int.natCast_add, Int.natCast_one, List.append_assoc, List.length_append, Nat.add_assoc, and_self, and_true, true_and, and_false, false_and, or_true, true_or, or_false, false_or, not_true_eq_false, not_false_eq_true, Int.cast_ofNat_Int, Int.natCast_nonneg, Int.toNat_natCast, ne_eq, not_true_eq_false, not_false_eq_true, Nat.reduceBEq, Nat.reduceAdd, Nat.reduceSub, Nat.reduceMul, Nat.reduceLeDiff, Nat.reduceEqDiff, Nat.reduceLT, Int.reduceNeg, Int.reduceAdd, Int.reduceSub, Int.reduceMul, Int.reduceLE, Int.reduceLT, Int.reduceEq, Int.reduceToNat, reduceCtorEq, run_l1In]
  repeat' ((first | rw [GuardI_ndec] | rw [CondC_ndec] | rw [GuardQ_ndec] | rw [GuardI_dec] | rw [CondC_dec] | rw [GuardQ_dec] | rw [GuardI_nby] | rw [CondC_nby] | rw [GuardQ_nby] | rw [GuardQ_by] | rw [GuardI_by] | rw [CondC_by]) <;> split <;> simp -implicitDefEqProofs (disch := omega) only [go_sem, Nat.sub_zero, List.drop_zero, eq_self, Option.getD_none, Option.getD_some, Option.isSome_none, Option.isSome_some, Option.isNone_none, Option.isNone_some, Bool.or_false, Bool.false_or, Bool.and_false, Bool.false_and, Int.le_refl, Nat.le_refl, List.length_map, List.getElem?_map, Int.natCast_add, Int.natCast_one, List.append_assoc, List.length_append, Nat.add_assoc, and_self, and_true, true_and, and_false, false_and, or_true, true_or, or_false, false_or, not_true_eq_false, not_false_eq_true, Int.cast_ofNat_Int, Int.natCast_nonneg, Int.toNat_natCast, ne_eq, not_true_eq_false, not_false_eq_true, Nat.reduceBEq, Nat.reduceAdd, Nat.reduceSub, Nat.reduceMul, Nat.reduceLeDiff, Nat.reduceEqDiff, Nat.reduceLT, Int.reduceNeg, Int.reduceAdd, Int.reduceSub, Int.reduceMul, Int.reduceLE, Int.reduceLT, Int.reduceEq, Int.reduceToNat, reduceCtorEq, run_l1In, *])
  all_goals (first | (simp only [truthOk, reduceIte, if_true, if_false, Bool.false_eq_true, *]; done) | (simp_all [truthOk]; done) | (simp_all [truthOk]; omega) | (simp_all [truthOk]; grind) | grind [truthOk])
-- find148
theorem run_sure (d : Nat) (n : Int) (h : truthOk n = true) : retP (runD tab noExt (d + 1)) 148 [.int .i64 n] = some [.int .i64 (if n = 0 then 0 else if n = 1 then 2 else 1)] := by
  have h3 : n = 0 ∨ n = 1 ∨ n = 2 := by simp [truthOk] at h; omega
  rw [retP, runD_eq find148 _ _ _ (by simp)]
  rcases h3 with rfl | rfl | rfl <;> simp -implicitDefEqProofs (disch := omega) only [go_sem, Nat.sub_zero, List.drop_zero, eq_self, Option.getD_none, Option.getD_some, Option.isSome_none, Option.isSome_some, Option.isNone_none, Option.isNone_some, Bool.or_false, Bool.false_or, Bool.and_false, Bool.false_and, Int.le_refl, Nat.le_refl, List.length_map, List.getElem?_map, Int.natCast_add, Int.natCast_one, List.append_assoc, List.length_append, Nat.add_assoc, and_self, and_true, true_and, and_false, false_and, or_true, true_or, or_false, false_or, not_true_eq_false, not_false_eq_true, Int.cast_ofNat_Int, Int.natCast_nonneg, Int.toNat_natCast, ne_eq, not_true_eq_false, not_false_eq_true, Nat.reduceBEq, Nat.reduceAdd, Nat.reduceSub, Nat.reduceMul, Nat.reduceLeDiff, Nat.reduceEqDiff, Nat.reduceLT, Int.reduceNeg, Int.reduceAdd, Int.reduceSub, Int.reduceMul, Int.reduceLE, Int.reduceLT, Int.reduceEq, Int.reduceToNat, reduceCtorEq, Int.toNat_zero, Int.toNat_one, Int.reduceToNat]
-- find149
theorem run_OrOfR (d : Nat) (a b : Int) : retP (runD tab noExt (d + 3)) 149 [.int .i64 a, .int .i64 b] = some [.int .i64 (foldT a b 1)] := by
  rw [retP, runD_eq find149 _ _ _ (by simp)]
  by_cases h1 : truthOk a = true
  · by_cases h2 : truthOk b = true
    · have h3 : a = 0 ∨ a = 1 ∨ a = 2 := by simp [truthOk] at h1; omega
      have h4 : b = 0 ∨ b = 1 ∨ b = 2 := by simp [truthOk] at h2; omega
      rcases h3 with rfl | rfl | rfl <;> rcases h4 with rfl | rfl | rfl <;> (simp -implicitDefEqProofs (disch := first | omega | rfl) only [go_sem, Nat.sub_zero, List.drop_zero, eq_self, Option.getD_none, Option.getD_some, Option.isSome_none, Option.isSome_some, Option.isNone_none, Option.isNone_some, Bool.or_false, Bool.false_or, Bool.and_false, Bool.false_and, Int.le_refl, Nat.le_refl, List.length_map, List.getElem?_map, Int.natCast_add, Int.natCast_one, List.append_assoc, List.length_append, Nat.add_assoc, and_self, and_true, true_and, and_false, false_and, or_true, true_or, or_false, false_or, not_true_eq_false, not_false_eq_true, Int.cast_ofNat_Int, Int.natCast_nonneg, Int.toNat_natCast, ne_eq, not_true_eq_false, not_false_eq_true, Nat.reduceBEq, Nat.reduceAdd, Nat.reduceSub, Nat.reduceMul, Nat.reduceLeDiff, Nat.reduceEqDiff, Nat.reduceLT, Int.reduceNeg, Int.reduceAdd, Int.reduceSub, Int.reduceMul, Int.reduceLE, Int.reduceLT, Int.reduceEq, Int.reduceToNat, reduceCtorEq, run_truthOkR, run_sure, h1, h2]; rfl)
    · simp -implicitDefEqProofs (disch := omega) only [go_sem, Nat.sub_zero, List.drop_zero, eq_self, Option.getD_none, Option.getD_some, Option.isSome_none, Option.isSome_some, Option.isNone_none, Option.isNone_some, Bool.or_false, Bool.false_or, Bool.and_false, Bool.false_and, Int.le_refl, Nat.le_refl, List.length_map, List.getElem?_map, Int.natCast_add, Int.natCast_one, List.append_assoc, List.length_append, Nat.add_assoc, and_self, and_true, true_and, and_false, false_and, or_true, true_or, or_false, false_or, not_true_eq_false, not_false_eq_true, Int.cast_ofNat_Int, Int.natCast_nonneg, Int.toNat_natCast, ne_eq, not_true_eq_false, not_false_eq_true, Nat.reduceBEq, Nat.reduceAdd, Nat.reduceSub, Nat.reduceMul, Nat.reduceLeDiff, Nat.reduceEqDiff, Nat.reduceLT, Int.reduceNeg, Int.reduceAdd, Int.reduceSub, Int.reduceMul, Int.reduceLE, Int.reduceLT, Int.reduceEq, Int.reduceToNat, reduceCtorEq, run_truthOkR, h1, h2]
      simp [foldT, h1, h2]
  · simp -implicitDefEqProofs (disch := omega) only [go_sem, Nat.sub_zero, List.drop_zero, eq_self, Option.getD_none, Option.getD_some, Option.isSome_none, Option.isSome_some, Option.isNone_none, Option.isNone_some, Bool.or_false, Bool.false_or, Bool.and_false, Bool.false_and, Int.le_refl, Nat.le_refl, List.length_map, List.getElem?_map, Int.natCast_add, Int.natCast_one, List.append_assoc, List.length_append, Nat.add_assoc, and_self, and_true, true_and, and_false, false_and, or_true, true_or, or_false, false_or, not_true_eq_false, not_false_eq_true, Int.cast_ofNat_Int, Int.natCast_nonneg, Int.toNat_natCast, ne_eq, not_true_eq_false, not_false_eq_true, Nat.reduceBEq, Nat.reduceAdd, Nat.reduceSub, Nat.reduceMul, Nat.reduceLeDiff, Nat.reduceEqDiff, Nat.reduceLT, Int.reduceNeg, Int.reduceAdd, Int.reduceSub, Int.reduceMul, Int.reduceLE, Int.reduceLT, Int.reduceEq, Int.reduceToNat, reduceCtorEq, run_truthOkR, h1]
    simp [foldT, h1]
-- find106
theorem run_NotOfR (d : Nat) (a : Int) : retP (runD tab noExt (d + 3)) 106 [.int .i64 a] = some [.int .i64 (notT a)] := by
  rw [retP, runD_eq find106 _ _ _ (by simp)]
  by_cases h1 : truthOk a = true
  · have h3 : a = 0 ∨ a = 1 ∨ a = 2 := by simp [truthOk] at h1; omega
    rcases h3 with rfl | rfl | rfl <;> (simp -implicitDefEqProofs (disch := first | omega | rfl) only [go_sem, Nat.sub_zero, List.drop_zero, eq_self, Option.getD_none, Option.getD_some, Option.isSome_none, Option.isSome_some, Option.isNone_none, Option.isNone_some, Bool.or_false, Bool.false_or, Bool.and_false, Bool.false_and, Int.le_refl, Nat.le_refl, List.length_map, List.getElem?_map, Int.natCast_add, Int.natCast_one, List.append_assoc, List.length_append, Nat.add_assoc, and_self, and_true, true_and, and_false, false_and, or_true, true_or, or_false, false_or, not_true_eq_false, not_false_eq_true, Int.cast_ofNat_Int, Int.natCast_nonneg, Int.toNat_natCast, ne_eq, not_true_eq_false, not_false_eq_true, Nat.reduceBEq, Nat.reduceAdd, Nat.reduceSub, Nat.reduceMul, Nat.reduceLeDiff, Nat.reduceEqDiff, Nat.reduceLT, Int.reduceNeg, Int.reduceAdd, Int.reduceSub, Int.reduceMul, Int.reduceLE, Int.reduceLT, Int.reduceEq, Int.reduceToNat, reduceCtorEq, run_truthOkR, run_sure, h1, IntWalk.i64_in]; rfl)
  · have h3 : ¬ (a = 0) ∧ ¬ (a = 1) ∧ ¬ (a = 2) := by simp [truthOk] at h1; omega
    simp -implicitDefEqProofs (disch := omega) only [go_sem, Nat.sub_zero, List.drop_zero, eq_self, Option.getD_none, Option.getD_some, Option.isSome_none, Option.isSome_some, Option.isNone_none, Option.isNone_some, Bool.or_false, Bool.false_or, Bool.and_false, Bool.false_and, Int.le_refl, Nat.le_refl, List.length_map, List.getElem?_map, Int.natCast_add, Int.natCast_one, List.append_assoc, List.length_append, Nat.add_assoc, and_self, and_true, true_and, and_false, false_and, or_true, true_or, or_false, false_or, not_true_eq_false, not_false_eq_true, Int.cast_ofNat_Int, Int.natCast_nonneg, Int.toNat_natCast, ne_eq, not_true_eq_false, not_false_eq_true, Nat.reduceBEq, Nat.reduceAdd, Nat.reduceSub, Nat.reduceMul, Nat.reduceLeDiff, Nat.reduceEqDiff, Nat.reduceLT, Int.reduceNeg, Int.reduceAdd, Int.reduceSub, Int.reduceMul, Int.reduceLE, Int.reduceLT, Int.reduceEq, Int.reduceToNat, reduceCtorEq, run_truthOkR, h1]
    simp [notT, h3]
theorem loop_inR (d : Nat) (c : Bool) (v : Val) (ws : List Val) (hs : ws.length < 1099511627776) (hv : v.s.size < 1099511627776) (hw : ∀ w ∈ ws, w.s.size < 1099511627776) (K : Nat) (hK : ws.length ≤ K) (o : Int) :
    LoopS (runD tab noExt (d + 5)) (drawI (runD tab noExt (d + 5))) [1, 2, 5, 6] [4, 5] L107x0 1 K [(1, .sl c 3 (ws.map Val.cells)), (2, .ptr 0 0 0 0), (5, .int .i64 o), (6, .int .i64 0)] [.box v.cells] = inO (inF v ws o) v.cells := by
  have key := LoopS_rec (run := runD tab noExt (d + 5)) (draw := drawI (runD tab noExt (d + 5))) (live := [1, 2, 5, 6]) (out := [4, 5]) (c := L107x0) (n0 := 1) ws (fun (i : Nat) (o : Int) => [(1, .sl c 3 (ws.map Val.cells)), (2, .ptr 0 0 0 0), (5, .int .i64 o), (6, .int .i64 (i : Int))]) (fun _ _ => [.box v.cells])
    (fun r o => inO (inF v r o) v.cells) (fun o K => ?_) (fun (i : Nat) x r o K hi hx hr ih => ?_) K hK o
  · simp only [Int.natCast_zero] at key
    exact key
  · rw [LoopS_eq]
    simp -implicitDefEqProofs only [go_sem, Nat.sub_zero, List.drop_zero, eq_self, Option.getD_none, Option.getD_some, Option.isSome_none, Option.isSome_some, Option.isNone_none, Option.isNone_some, Bool.or_false, Bool.false_or, Bool.and_false, Bool.false_and, Int.le_refl, Nat.le_refl, List.length_map, List.getElem?_map, Int.natCast_add, Int.natCast_one, List.append_assoc, List.length_append, Nat.add_assoc, and_self, and_true, true_and, and_false, false_and, or_true, true_or, or_false, false_or, not_true_eq_false, not_false_eq_true, Int.cast_ofNat_Int, Int.natCast_nonneg, Int.toNat_natCast, ne_eq, not_true_eq_false, not_false_eq_true, Nat.reduceBEq, Nat.reduceAdd, Nat.reduceSub, Nat.reduceMul, Nat.reduceLeDiff, Nat.reduceEqDiff, Nat.reduceLT, Int.reduceNeg, Int.reduceAdd, Int.reduceSub, Int.reduceMul, Int.reduceLE, Int.reduceLT, Int.reduceEq, Int.reduceToNat, reduceCtorEq, evL107x0, B107x0, Int.lt_irrefl, inO, inF]
  · have hxs := hw x (List.mem_of_getElem? hx)
    have ih' := ih (foldT o (cmpV 1 v x) 1)
    simp only [Int.natCast_add, Int.natCast_one] at ih'
    rw [LoopS_eq]
    unfold inF
    by_cases h1 : x.ok = true
    · rw [if_pos h1]
      by_cases h2 : v.kind = 0
      · have h2' : (v.kind = 0) = True := eq_true h2
        rw [if_pos h2, ← ih']
        simp -implicitDefEqProofs (disch := first | omega | assumption) only [go_sem, Nat.sub_zero, List.drop_zero, eq_self, Option.getD_none, Option.getD_some, Option.isSome_none, Option.isSome_some, Option.isNone_none, Option.isNone_some, Bool.or_false, Bool.false_or, Bool.and_false, Bool.false_and, Int.le_refl, Nat.le_refl, List.length_map, List.getElem?_map, Int.natCast_add, Int.natCast_one, List.append_assoc, List.length_append, Nat.add_assoc, and_self, and_true, true_and, and_false, false_and, or_true, true_or, or_false, false_or, not_true_eq_false, not_false_eq_true, Int.cast_ofNat_Int, Int.natCast_nonneg, Int.toNat_natCast, ne_eq, not_true_eq_false, not_false_eq_true, Nat.reduceBEq, Nat.reduceAdd, Nat.reduceSub, Nat.reduceMul, Nat.reduceLeDiff, Nat.reduceEqDiff, Nat.reduceLT, Int.reduceNeg, Int.reduceAdd, Int.reduceSub, Int.reduceMul, Int.reduceLE, Int.reduceLT, Int.reduceEq, Int.reduceToNat, reduceCtorEq, evL107x0, B107x0, evC_draw, evD107x0, E107x0, evC_draw, evD107x1, E107x1, hi, hx, Val.cells, run_specValueOk, Val.eta, h1, h2', run_CompareR, run_OrOfR, IntWalk.i64_in]
      · have h2' : (v.kind = 0) = False := eq_false h2
        rw [if_neg h2]
        by_cases h3 : x.kind = 0
        · have h3' : (x.kind = 0) = True := eq_true h3
          rw [if_pos h3, ← ih']
          simp -implicitDefEqProofs (disch := first | omega | assumption) only [go_sem, Nat.sub_zero, List.drop_zero, eq_self, Option.getD_none, Option.getD_some, Option.isSome_none, Option.isSome_some, Option.isNone_none, Option.isNone_some, Bool.or_false, Bool.false_or, Bool.and_false, Bool.false_and, Int.le_refl, Nat.le_refl, List.length_map, List.getElem?_map, Int.natCast_add, Int.natCast_one, List.append_assoc, List.length_append, Nat.add_assoc, and_self, and_true, true_and, and_false, false_and, or_true, true_or, or_false, false_or, not_true_eq_false, not_false_eq_true, Int.cast_ofNat_Int, Int.natCast_nonneg, Int.toNat_natCast, ne_eq, not_true_eq_false, not_false_eq_true, Nat.reduceBEq, Nat.reduceAdd, Nat.reduceSub, Nat.reduceMul, Nat.reduceLeDiff, Nat.reduceEqDiff, Nat.reduceLT, Int.reduceNeg, Int.reduceAdd, Int.reduceSub, Int.reduceMul, Int.reduceLE, Int.reduceLT, Int.reduceEq, Int.reduceToNat, reduceCtorEq, evL107x0, B107x0, evC_draw, evD107x0, E107x0, evC_draw, evD107x1, E107x1, hi, hx, Val.cells, run_specValueOk, Val.eta, h1, h2', h3', run_CompareR, run_OrOfR, IntWalk.i64_in]
        · have h3' : (x.kind = 0) = False := eq_false h3
          rw [if_neg h3]
          by_cases h4 : v.kind = x.kind
          · have h4' : (v.kind = x.kind) = True := eq_true h4
            rw [if_pos h4, ← ih']
            simp -implicitDefEqProofs (disch := first | omega | assumption) only [go_sem, Nat.sub_zero, List.drop_zero, eq_self, Option.getD_none, Option.getD_some, Option.isSome_none, Option.isSome_some, Option.isNone_none, Option.isNone_some, Bool.or_false, Bool.false_or, Bool.and_false, Bool.false_and, Int.le_refl, Nat.le_refl, List.length_map, List.getElem?_map, Int.natCast_add, Int.natCast_one, List.append_assoc, List.length_append, Nat.add_assoc, and_self, and_true, true_and, and_false, false_and, or_true, true_or, or_false, false_or, not_true_eq_false, not_false_eq_true, Int.cast_ofNat_Int, Int.natCast_nonneg, Int.toNat_natCast, ne_eq, not_true_eq_false, not_false_eq_true, Nat.reduceBEq, Nat.reduceAdd, Nat.reduceSub, Nat.reduceMul, Nat.reduceLeDiff, Nat.reduceEqDiff, Nat.reduceLT, Int.reduceNeg, Int.reduceAdd, Int.reduceSub, Int.reduceMul, Int.reduceLE, Int.reduceLT, Int.reduceEq, Int.reduceToNat, reduceCtorEq, evL107x0, B107x0, evC_draw, evD107x0, E107x0, evC_draw, evD107x1, E107x1, hi, hx, Val.cells, run_specValueOk, Val.eta, h1, h2', h3', h4', run_CompareR, run_OrOfR, IntWalk.i64_in]
          · have h4' : (v.kind = x.kind) = False := eq_false h4
            rw [if_neg h4]
            simp -implicitDefEqProofs (disch := first | omega | assumption) only [go_sem, Nat.sub_zero, List.drop_zero, eq_self, Option.getD_none, Option.getD_some, Option.isSome_none, Option.isSome_some, Option.isNone_none, Option.isNone_some, Bool.or_false, Bool.false_or, Bool.and_false, Bool.false_and, Int.le_refl, Nat.le_refl, List.length_map, List.getElem?_map, Int.natCast_add, Int.natCast_one, List.append_assoc, List.length_append, Nat.add_assoc, and_self, and_true, true_and, and_false, false_and, or_true, true_or, or_false, false_or, not_true_eq_false, not_false_eq_true, Int.cast_ofNat_Int, Int.natCast_nonneg, Int.toNat_natCast, ne_eq, not_true_eq_false, not_false_eq_true, Nat.reduceBEq, Nat.reduceAdd, Nat.reduceSub, Nat.reduceMul, Nat.reduceLeDiff, Nat.reduceEqDiff, Nat.reduceLT, Int.reduceNeg, Int.reduceAdd, Int.reduceSub, Int.reduceMul, Int.reduceLE, Int.reduceLT, Int.reduceEq, Int.reduceToNat, reduceCtorEq, evL107x0, B107x0, evC_draw, evD107x0, E107x0, hi, hx, Val.cells, run_specValueOk, Val.eta, h1, h2', h3', h4', inO]
    · rw [if_neg h1]
      simp -implicitDefEqProofs (disch := first | omega | assumption) only [go_sem, Nat.sub_zero, List.drop_zero, eq_self, Option.getD_none, Option.getD_some, Option.isSome_none, Option.isSome_some, Option.isNone_none, Option.isNone_some, Bool.or_false, Bool.false_or, Bool.and_false, Bool.false_and, Int.le_refl, Nat.le_refl, List.length_map, List.getElem?_map, Int.natCast_add, Int.natCast_one, List.append_assoc, List.length_append, Nat.add_assoc, and_self, and_true, true_and, and_false, false_and, or_true, true_or, or_false, false_or, not_true_eq_false, not_false_eq_true, Int.cast_ofNat_Int, Int.natCast_nonneg, Int.toNat_natCast, ne_eq, not_true_eq_false, not_false_eq_true, Nat.reduceBEq, Nat.reduceAdd, Nat.reduceSub, Nat.reduceMul, Nat.reduceLeDiff, Nat.reduceEqDiff, Nat.reduceLT, Int.reduceNeg, Int.reduceAdd, Int.reduceSub, Int.reduceMul, Int.reduceLE, Int.reduceLT, Int.reduceEq, Int.reduceToNat, reduceCtorEq, evL107x0, B107x0, evC_draw, evD107x0, E107x0, hi, hx, Val.cells, run_specValueOk, Val.eta, h1, inO]
-- find107
theorem run_inR (d : Nat) (c : Bool) (vk vn : Int) (vq : ByteArray) (ws : List Val) (hs : ws.length < 1099511627776) (hv : vq.size < 1099511627776) (hw : ∀ w ∈ ws, w.s.size < 1099511627776) : retP (runD tab noExt (d + 6)) 107 [.agg [.int .i64 vk, .int .i64 vn, .str vq], .sl c 3 (ws.map Val.cells)] = some [.int .i64 (inR (⟨vk, vn, vq⟩ : Val) ws)] := by
  rw [retP, runD_eq find107 _ _ _ (by simp)]
  by_cases h1 : Val.ok (⟨vk, vn, vq⟩ : Val) = true
  · by_cases h2 : (30 : Int) < ws.length
    · simp -implicitDefEqProofs (disch := omega) only [go_sem, Nat.sub_zero, List.drop_zero, eq_self, Option.getD_none, Option.getD_some, Option.isSome_none, Option.isSome_some, Option.isNone_none, Option.isNone_some, Bool.or_false, Bool.false_or, Bool.and_false, Bool.false_and, Int.le_refl, Nat.le_refl, List.length_map, List.getElem?_map, Int.natCast_add, Int.natCast_one, List.append_assoc, List.length_append, Nat.add_assoc, and_self, and_true, true_and, and_false, false_and, or_true, true_or, or_false, false_or, not_true_eq_false, not_false_eq_true, Int.cast_ofNat_Int, Int.natCast_nonneg, Int.toNat_natCast, ne_eq, not_true_eq_false, not_false_eq_true, Nat.reduceBEq, Nat.reduceAdd, Nat.reduceSub, Nat.reduceMul, Nat.reduceLeDiff, Nat.reduceEqDiff, Nat.reduceLT, Int.reduceNeg, Int.reduceAdd, Int.reduceSub, Int.reduceMul, Int.reduceLE, Int.reduceLT, Int.reduceEq, Int.reduceToNat, reduceCtorEq, run_specValueOk, h1, h2]
      simp [inR, h1, h2]
    · have hl := loop_inR d c (⟨vk, vn, vq⟩ : Val) ws hs hv hw 1099511627775 (by omega) 0
      simp -implicitDefEqProofs (disch := omega) only [go_sem, Nat.sub_zero, List.drop_zero, eq_self, Option.getD_none, Option.getD_some, Option.isSome_none, Option.isSome_some, Option.isNone_none, Option.isNone_some, Bool.or_false, Bool.false_or, Bool.and_false, Bool.false_and, Int.le_refl, Nat.le_refl, List.length_map, List.getElem?_map, Int.natCast_add, Int.natCast_one, List.append_assoc, List.length_append, Nat.add_assoc, and_self, and_true, true_and, and_false, false_and, or_true, true_or, or_false, false_or, not_true_eq_false, not_false_eq_true, Int.cast_ofNat_Int, Int.natCast_nonneg, Int.toNat_natCast, ne_eq, not_true_eq_false, not_false_eq_true, Nat.reduceBEq, Nat.reduceAdd, Nat.reduceSub, Nat.reduceMul, Nat.reduceLeDiff, Nat.reduceEqDiff, Nat.reduceLT, Int.reduceNeg, Int.reduceAdd, Int.reduceSub, Int.reduceMul, Int.reduceLE, Int.reduceLT, Int.reduceEq, Int.reduceToNat, reduceCtorEq, run_specValueOk, h1, h2, Val.cells] at hl ⊢
      rw [hl]
      unfold inO
      cases h3 : (inF (⟨vk, vn, vq⟩ : Val) ws 0).1
      · simp -implicitDefEqProofs only [go_sem, Nat.sub_zero, List.drop_zero, eq_self, Option.getD_none, Option.getD_some, Option.isSome_none, Option.isSome_some, Option.isNone_none, Option.isNone_some, Bool.or_false, Bool.false_or, Bool.and_false, Bool.false_and, Int.le_refl, Nat.le_refl, List.length_map, List.getElem?_map, Int.natCast_add, Int.natCast_one, List.append_assoc, List.length_append, Nat.add_assoc, and_self, and_true, true_and, and_false, false_and, or_true, true_or, or_false, false_or, not_true_eq_false, not_false_eq_true, Int.cast_ofNat_Int, Int.natCast_nonneg, Int.toNat_natCast, ne_eq, not_true_eq_false, not_false_eq_true, Nat.reduceBEq, Nat.reduceAdd, Nat.reduceSub, Nat.reduceMul, Nat.reduceLeDiff, Nat.reduceEqDiff, Nat.reduceLT, Int.reduceNeg, Int.reduceAdd, Int.reduceSub, Int.reduceMul, Int.reduceLE, Int.reduceLT, Int.reduceEq, Int.reduceToNat, reduceCtorEq, if_false, Bool.false_eq_true]
        simp [inR, h1, h2, h3]
      · simp -implicitDefEqProofs only [go_sem, Nat.sub_zero, List.drop_zero, eq_self, Option.getD_none, Option.getD_some, Option.isSome_none, Option.isSome_some, Option.isNone_none, Option.isNone_some, Bool.or_false, Bool.false_or, Bool.and_false, Bool.false_and, Int.le_refl, Nat.le_refl, List.length_map, List.getElem?_map, Int.natCast_add, Int.natCast_one, List.append_assoc, List.length_append, Nat.add_assoc, and_self, and_true, true_and, and_false, false_and, or_true, true_or, or_false, false_or, not_true_eq_false, not_false_eq_true, Int.cast_ofNat_Int, Int.natCast_nonneg, Int.toNat_natCast, ne_eq, not_true_eq_false, not_false_eq_true, Nat.reduceBEq, Nat.reduceAdd, Nat.reduceSub, Nat.reduceMul, Nat.reduceLeDiff, Nat.reduceEqDiff, Nat.reduceLT, Int.reduceNeg, Int.reduceAdd, Int.reduceSub, Int.reduceMul, Int.reduceLE, Int.reduceLT, Int.reduceEq, Int.reduceToNat, reduceCtorEq, if_true]
        simp [inR, h1, h2, h3]
  · simp -implicitDefEqProofs (disch := omega) only [go_sem, Nat.sub_zero, List.drop_zero, eq_self, Option.getD_none, Option.getD_some, Option.isSome_none, Option.isSome_some, Option.isNone_none, Option.isNone_some, Bool.or_false, Bool.false_or, Bool.and_false, Bool.false_and, Int.le_refl, Nat.le_refl, List.length_map, List.getElem?_map, Int.natCast_add, Int.natCast_one, List.append_assoc, List.length_append, Nat.add_assoc, and_self, and_true, true_and, and_false, false_and, or_true, true_or, or_false, false_or, not_true_eq_false, not_false_eq_true, Int.cast_ofNat_Int, Int.natCast_nonneg, Int.toNat_natCast, ne_eq, not_true_eq_false, not_false_eq_true, Nat.reduceBEq, Nat.reduceAdd, Nat.reduceSub, Nat.reduceMul, Nat.reduceLeDiff, Nat.reduceEqDiff, Nat.reduceLT, Int.reduceNeg, Int.reduceAdd, Int.reduceSub, Int.reduceMul, Int.reduceLE, Int.reduceLT, Int.reduceEq, Int.reduceToNat, reduceCtorEq, run_specValueOk, h1]
    simp [inR, h1]
/-- Both are the same. -/
theorem cmp_self_ok {v w : Val} (hv : v.ok = true) (hw : w.ok = true) (h1 : v.kind ≠ 0) (h2 : w.kind ≠ 0) (h3 : v.kind = w.kind) : cmpV 1 v w = if eqB v w then 1 else 0 := by
  have e : v.cmp w = 0 ↔ v = w := by
    constructor
    · intro h
      obtain ⟨k, n, s⟩ := v
      obtain ⟨k', n', s'⟩ := w
      unfold Val.cmp at h
      dsimp only at h h3
      subst h3
      have hk : cmpI k k = 0 := by unfold cmpI; simp
      rw [hk] at h
      simp only [ne_eq, not_true_eq_false, if_false] at h
      split at h
      · rename_i hn
        exact absurd h hn
      · rename_i hn
        have hn' : n = n' := by
          have : cmpI n n' = 0 := by simpa using hn
          unfold cmpI at this
          split at this
          · omega
          · split at this
            · omega
            · omega
        have hs : s = s' := by
          unfold cmpS at h
          split at h
          · omega
          · rename_i g1
            split at h
            · omega
            · rename_i g2
              have := str_gt s s'
              by_cases hc : s = s'
              · exact hc
              · exfalso
                have x1 : ltS s s' = false := by simpa using g1
                have x2 : ltS s' s = false := by simpa using g2
                rw [x1, x2] at this
                simp [hc] at this
        rw [hn', hs]
    · rintro rfl
      have h1 : ∀ x, cmpI x x = 0 := fun x => by unfold cmpI; simp
      have h2 : cmpS v.s v.s = 0 := by unfold cmpS ltS; simp [List.lt_irrefl]
      unfold Val.cmp
      rw [h1, h1, h2]
      simp
  rw [eqB_eq]
  unfold cmpV cmpT
  by_cases hvw : v = w
  · subst hvw
    simp [hv, h1, e]
  · have : ¬ v.cmp w = 0 := fun h => hvw (e.1 h)
    simp [hv, hw, h1, h2, h3, this, hvw]
def resF (o : Int) (e z : Bool) : Int := if o = 1 then 1 else if e then 1 else if o = 2 then 2 else if z then 2 else 0
theorem bad_no {v w : Val} (h1 : w.ok = true) (h : w.kind = v.kind ∨ w.kind = 0) : inBad v w = false := by
  unfold inBad
  rw [if_pos h1]
  repeat' split
  all_goals first | rfl | (exfalso; rcases h with h | h <;> contradiction)
theorem bad_yes {v w : Val} (h : w.ok = true → w.kind ≠ v.kind ∧ w.kind ≠ 0) : inBad v w = true := by
  unfold inBad
  by_cases h1 : w.ok = true
  · obtain ⟨h2, h3⟩ := h h1
    rw [if_pos h1, if_neg h2, if_neg h3]
  · rw [if_neg h1]
theorem inF_spec {v : Val} (hv : v.ok = true) (hk : v.kind ≠ 0) : ∀ (ws : List Val) (o : Int), o = 0 ∨ o = 1 ∨ o = 2 → (inF v ws o).1 = ws.any (inBad v) ∧ (ws.any (inBad v) = false → (inF v ws o).2 = resF o (ws.any (eqB v)) (ws.any (eqB Val.zero)))
  | [], o, ho => by
    rcases ho with rfl | rfl | rfl <;> exact ⟨rfl, fun _ => rfl⟩
  | w :: r, o, ho => by
    unfold inF
    rw [List.any_cons, List.any_cons, List.any_cons]
    by_cases h1 : w.ok = true
    · rw [if_pos h1, if_neg hk]
      by_cases h2 : w.kind = 0
      · have hb : inBad v w = false := bad_no h1 (.inr h2)
        have hc : cmpV 1 v w = 2 := by unfold cmpV; simp [hv, h1, hk, h2]
        have hz : eqB Val.zero w = true := by
          rw [eqB_iff]
          obtain ⟨k, n, s⟩ := w
          dsimp only at h2
          subst h2
          simp [Val.ok] at h1
          obtain ⟨rfl, rfl⟩ := h1
          rfl
        have he : eqB v w = false := by
          cases h : eqB v w
          · rfl
          · rw [eqB_iff.1 h] at hk; exact absurd h2 hk
        rw [if_pos h2, hc, hb, hz, he, Bool.false_or, Bool.false_or, Bool.true_or]
        have ih := inF_spec hv hk r (foldT o 2 1) (by rcases ho with rfl | rfl | rfl <;> decide)
        refine ⟨ih.1, fun hb' => ?_⟩
        rw [ih.2 hb']
        generalize r.any (eqB v) = x
        generalize r.any (eqB Val.zero) = y
        rcases ho with rfl | rfl | rfl <;> revert x y <;> decide
      · rw [if_neg h2]
        by_cases h3 : v.kind = w.kind
        · have hb : inBad v w = false := bad_no h1 (.inl h3.symm)
          have hz : eqB Val.zero w = false := by
            cases h : eqB Val.zero w
            · rfl
            · rw [← eqB_iff.1 h] at h2; exact absurd rfl h2
          rw [if_pos h3, cmp_self_ok hv h1 hk h2 h3, hb, hz, Bool.false_or, Bool.false_or]
          have ih0 := inF_spec hv hk r (foldT o 0 1) (by rcases ho with rfl | rfl | rfl <;> decide)
          have ih1 := inF_spec hv hk r (foldT o 1 1) (by rcases ho with rfl | rfl | rfl <;> decide)
          cases he : eqB v w
          · rw [if_neg (by decide), Bool.false_or]
            refine ⟨ih0.1, fun hb' => ?_⟩
            rw [ih0.2 hb']
            generalize r.any (eqB v) = x
            generalize r.any (eqB Val.zero) = y
            rcases ho with rfl | rfl | rfl <;> revert x y <;> decide
          · rw [if_pos rfl, Bool.true_or]
            refine ⟨ih1.1, fun hb' => ?_⟩
            rw [ih1.2 hb']
            generalize r.any (eqB v) = x
            generalize r.any (eqB Val.zero) = y
            rcases ho with rfl | rfl | rfl <;> revert x y <;> decide
        · have hb : inBad v w = true := bad_yes (fun _ => ⟨fun h => h3 h.symm, h2⟩)
          rw [if_neg h3, hb]
          exact ⟨rfl, fun h => by rw [Bool.true_or] at h; cases h⟩
    · have hb : inBad v w = true := bad_yes (fun h => absurd h h1)
      rw [if_neg h1, hb]
      exact ⟨rfl, fun h => by rw [Bool.true_or] at h; cases h⟩
theorem inF_none {v : Val} (hv : v.ok = true) (hk : v.kind = 0) : ∀ (ws : List Val) (o : Int), o = 0 ∨ o = 2 → (inF v ws o).1 = true ∨ (inF v ws o).2 = if ws.length = 0 then o else 2
  | [], o, ho => by simp [inF]
  | w :: r, o, ho => by
    unfold inF
    by_cases h1 : w.ok = true
    · rw [if_pos h1, if_pos hk]
      have hc : cmpV 1 v w = 2 := by unfold cmpV; simp [hv, h1, hk]
      have hn : foldT o 2 1 = 2 := by rcases ho with rfl | rfl <;> decide
      rw [hc, hn]
      rcases inF_none hv hk r 2 (.inr rfl) with h | h
      · exact .inl h
      · refine .inr ?_
        rw [h]
        simp
    · rw [if_neg h1]
      exact .inl rfl
theorem inR_eq (v : Val) (ws : List Val) : inR v ws = inT v ws := by
  unfold inR inT
  by_cases hv : v.ok = true
  · rw [if_pos hv, if_pos hv]
    split
    · rfl
    · by_cases hk : v.kind = 0
      · rcases inF_none hv hk ws 0 (.inl rfl) with h | h
        · rw [if_pos h]
          split
          · rfl
          · split
            · rename_i h0
              have := List.eq_nil_of_length_eq_zero h0
              subst this
              simp [inF] at h
            · first | rfl | rw [if_pos hk]
        · rw [h]
          by_cases h0 : ws.length = 0
          · have := List.eq_nil_of_length_eq_zero h0
            subst this
            simp [inF]
          · rw [if_neg h0]
            split
            · split
              · rfl
              · first | rfl | rw [if_pos hk]
            · split
              · rfl
              · first | rfl | rw [if_pos hk]
      · obtain ⟨h1, h2⟩ := inF_spec hv hk ws 0 (.inl rfl)
        rw [h1]
        cases hb : ws.any (inBad v)
        · rw [h2 hb]
          by_cases h0 : ws.length = 0
          · have := List.eq_nil_of_length_eq_zero h0
            subst this
            rfl
          · rw [if_neg (by decide), if_neg (by decide), if_neg h0, if_neg hk]
            unfold resF
            rw [if_neg (by decide)]
            cases ws.any (eqB v) <;> cases ws.any (eqB Val.zero) <;> rfl
        · rfl
  · rw [if_neg hv, if_neg hv]
end Go.Proofs.Ytgepapgabnaonaa.PE
