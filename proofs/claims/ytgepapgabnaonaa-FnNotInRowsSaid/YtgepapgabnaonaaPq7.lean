/- The law of rows that are known to be out. -/
import Derived.Test.YtgepapgabnaonaaPq6
set_option linter.unusedSimpArgs false
set_option linter.unusedVariables false
set_option maxHeartbeats 4000000
namespace Go.Proofs.Ytgepapgabnaonaa.PE
open Go.RowKit

theorem short_ofGR {rs : List Row} (h : ∀ r ∈ rs, GR r.vs) : Short rs := fun r hr => ⟨Nat.lt_of_le_of_lt (h r hr).1 (by decide), fun v hv => Nat.lt_of_le_of_lt ((h r hr).2 v hv) (by decide)⟩
theorem fine_ofGR {rs : List Row} (h : ∀ r ∈ rs, GR r.vs) (hl : rs.length ≤ 1000) : Fine rs := ⟨by omega, fun r hr => Nat.lt_of_le_of_lt (h r hr).1 (by decide)⟩
theorem zero_ofOk {v : Val} (h : v.ok = true) (hk : v.kind = 0) : v = Val.zero := by
  obtain ⟨k, n, s⟩ := v
  dsimp only at hk
  subst hk
  simp [Val.ok] at h
  obtain ⟨rfl, rfl⟩ := h
  rfl
def ColOk (kd : Int) (v : Val) : Prop := v.ok = true ∧ (v.kind = kd ∨ v.kind = 0)
theorem fit_col {cs : List Col} {rs : List Row} (h : rowsOk cs rs = true) {j : Int} (h0 : 0 ≤ j) (h1 : j < cs.length) : ∀ r ∈ rs, ColOk (cs.getD j.toNat ⟨0, false⟩).kind (valAt j r) := by
  intro r hr
  simp only [rowsOk, rowsFit, Bool.and_eq_true, List.all_eq_true] at h
  have h := h.1 r hr
  simp only [fitsRow, Bool.and_eq_true, rowOk, List.all_eq_true, decide_eq_true_eq] at h
  obtain ⟨⟨⟨_, h2, _⟩, hl⟩, h3⟩ := h
  have hj : j.toNat < cs.length := by omega
  have a1 := at_getD (⟨0, false⟩ : Col) hj
  have a2 := at_getD Val.zero (show j.toNat < r.vs.length by omega)
  unfold valAt
  refine ⟨h2 _ (List.mem_of_getElem? a2), ?_⟩
  have := h3 (cs.getD j.toNat ⟨0, false⟩, r.vs.getD j.toNat Val.zero) (List.mem_of_getElem? (List.getElem?_zip_eq_some.2 ⟨a1, a2⟩))
  simp only [fits1, Bool.or_eq_true, Bool.and_eq_true, decide_eq_true_eq] at this
  exact this.imp id (·.1)
theorem inT_fit {kd : Int} {v : Val} {ws : List Val} (hv : ColOk kd v) (hw : ∀ w ∈ ws, ColOk kd w) (hl : ws.length ≤ 30) :
    inT v ws = if ws.length = 0 then 0 else if v.kind = 0 then 2 else if ws.any (eqB v) then 1 else if ws.any (eqB Val.zero) then 2 else 0 := by
  unfold inT
  rw [if_pos hv.1, if_neg (by omega)]
  by_cases h0 : ws.length = 0
  · have := List.eq_nil_of_length_eq_zero h0
    subst this
    simp
  · rw [if_neg h0]
    by_cases hk : v.kind = 0
    · rw [if_pos hk]
      split <;> rfl
    · have hb : ws.any (inBad v) = false := by
        rw [List.any_eq_false]
        intro w hx
        obtain ⟨w1, w2⟩ := hw w hx
        rw [bad_no w1 (w2.imp (fun e => by have := hv.2; omega) id)]
        decide
      rw [hb, if_neg hk]
      rfl
def nullIn (j : Int) (rs : List Row) : Bool := rs.any fun r => decide ((valAt j r).kind = 0)
theorem null_eq {kd j : Int} {rs : List Row} (h : ∀ r ∈ rs, ColOk kd (valAt j r)) : (valsAt j rs).any (eqB Val.zero) = nullIn j rs := by
  unfold valsAt nullIn
  rw [List.any_map]
  induction rs with
  | nil => rfl
  | cons r rs ih =>
    rw [List.any_cons, List.any_cons, ih (fun x hx => h x (List.mem_cons_of_mem _ hx))]
    congr 1
    have h1 := h r List.mem_cons_self
    rw [Function.comp_apply, eqB_eq, decide_eq_decide]
    exact ⟨fun e => by rw [← e]; rfl, fun e => (zero_ofOk h1.1 e).symm⟩
def outQ (inn b : List Row) (i : Int) (x : Row) : Bool := if manyR inn x.vs = 0 then (if (valAt i x).kind = 0 then decide ((b.length : Int) = 0) else true) else false
theorem many_zero {a b : List Row} {i j : Int} (x : Row) (hx : x ∈ a) (c : Bool) : (manyR (own c (a.filter (inP b i j 1))) x.vs = 0) = (inT (valAt i x) (valsAt j b) ≠ 1) := by
  unfold manyR
  rw [many_count, Int.zero_add]
  apply propext
  constructor
  · intro h e
    have h0 : (own c (a.filter (inP b i j 1))).countP (fun y => decide (y.vs = x.vs)) = 0 := by omega
    rw [List.countP_eq_zero] at h0
    refine h0 (Row.own c x) ?_ (by simp [Row.own])
    refine List.mem_map.2 ⟨x, List.mem_filter.2 ⟨hx, ?_⟩, rfl⟩
    unfold inP
    simpa using e
  · intro h
    have h0 : (own c (a.filter (inP b i j 1))).countP (fun y => decide (y.vs = x.vs)) = 0 := by
      rw [List.countP_eq_zero]
      intro y hy e
      obtain ⟨z, hz, rfl⟩ := List.mem_map.1 hy
      have h2 := (List.mem_filter.1 hz).2
      unfold inP at h2
      have e1 : z.vs = x.vs := of_decide_eq_true e
      have h3 : inT (valAt i z) (valsAt j b) = 1 := by simpa using h2
      unfold valAt at h h3
      rw [e1] at h3
      exact h h3
    omega
theorem not_in {ca cb : List Col} {a b : List Row} {i j : Int} (hJ : joinR ca cb a b i j = true) (hb : b.length ≤ 30) (c : Bool) :
    notRows ca cb a b i j 0 = if nullIn j b then [] else a.filter (outQ (own c (notRows ca cb a b i j 1)) b i) := by
  obtain ⟨ra, rb, hi, hj, hkd⟩ := joinR_of hJ
  have fa := fit_col ra hi.1 hi.2
  have fb := fit_col rb hj.1 hj.2
  rw [← hkd] at fb
  have fw : ∀ w ∈ valsAt j b, ColOk (ca.getD i.toNat ⟨0, false⟩).kind w := fun w hw => by
    obtain ⟨r, hr, rfl⟩ := List.mem_map.1 hw
    exact fb r hr
  have hlen : (valsAt j b).length = b.length := by simp [valsAt]
  unfold notRows
  rw [hJ, if_pos rfl, if_pos rfl]
  cases hn : nullIn j b
  · rw [if_neg (by decide)]
    refine List.filter_congr (fun x hx => ?_)
    unfold outQ
    rw [show inP b i j 0 x = decide (inT (valAt i x) (valsAt j b) = 0) from rfl, Bool.eq_iff_iff]
    simp only [many_zero x hx c]
    rw [inT_fit (fa x hx) fw (by omega), null_eq fb, hn]
    by_cases h0 : b.length = 0
    · simp [hlen, h0]
    · rw [hlen, if_neg h0]
      by_cases hk : (valAt i x).kind = 0
      · simp [hk, h0]
      · simp only [hk, if_false, Bool.false_eq_true]
        cases (valsAt j b).any (eqB (valAt i x)) <;> simp
  · rw [if_pos rfl, List.filter_eq_nil_iff]
    intro x hx
    unfold inP
    rw [inT_fit (fa x hx) fw (by omega), null_eq fb, hn]
    have h0 : ¬ b.length = 0 := fun e => by
      have := List.eq_nil_of_length_eq_zero e
      subst this
      simp [nullIn] at hn
    rw [hlen, if_neg h0]
    by_cases hk : (valAt i x).kind = 0
    · simp [hk]
    · simp only [hk, if_false]
      cases (valsAt j b).any (eqB (valAt i x)) <;> simp

/-! ### the law -/
-- find47
theorem run_drawNotIn (d : Nat) (c : Bool) (l : List UInt8) : ∃ (ca cb : List Col) (a b : List Row) (i j : Int), retP (runD tab noExt (d + 8)) 47 [.sl c 1 (cellsOfBytes l)] = some [.sl false 2 (ca.map Col.cells), .sl false 2 (cb.map Col.cells), .sl false 1 (a.map Row.cells), .sl false 1 (b.map Row.cells), .int .i64 i, .int .i64 j] ∧ PairPost 12 ca cb a b i j := by
  rw [retP, runD_eq find47 _ _ _ (by simp)]
  simp -implicitDefEqProofs only [go_sem, Nat.sub_zero, List.drop_zero, eq_self, Option.getD_none, Option.getD_some, Option.isSome_none, Option.isSome_some, Option.isNone_none, Option.isNone_some, Bool.or_false, Bool.false_or, Bool.and_false, Bool.false_and, Int.le_refl, Nat.le_refl, List.length_map, List.getElem?_map, Int.natCast_add, Int.natCast_one, List.append_assoc, List.length_append, Nat.add_assoc, and_self, and_true, true_and, and_false, false_and, or_true, true_or, or_false, false_or, not_true_eq_false, not_false_eq_true, Int.cast_ofNat_Int, Int.natCast_nonneg, Int.toNat_natCast, ne_eq, not_true_eq_false, not_false_eq_true, Nat.reduceBEq, Nat.reduceAdd, Nat.reduceSub, Nat.reduceMul, Nat.reduceLeDiff, Nat.reduceEqDiff, Nat.reduceLT, Int.reduceNeg, Int.reduceAdd, Int.reduceSub, Int.reduceMul, Int.reduceLE, Int.reduceLT, Int.reduceEq, Int.reduceToNat, reduceCtorEq]
  generalize hx : callS (runD tab noExt _) _ 63 _ true = X
  obtain ⟨c', bs, rfl, hb⟩ := ex_open hx rfl
  clear hx
  simp -implicitDefEqProofs only [go_sem, Nat.sub_zero, List.drop_zero, eq_self, Option.getD_none, Option.getD_some, Option.isSome_none, Option.isSome_some, Option.isNone_none, Option.isNone_some, Bool.or_false, Bool.false_or, Bool.and_false, Bool.false_and, Int.le_refl, Nat.le_refl, List.length_map, List.getElem?_map, Int.natCast_add, Int.natCast_one, List.append_assoc, List.length_append, Nat.add_assoc, and_self, and_true, true_and, and_false, false_and, or_true, true_or, or_false, false_or, not_true_eq_false, not_false_eq_true, Int.cast_ofNat_Int, Int.natCast_nonneg, Int.toNat_natCast, ne_eq, not_true_eq_false, not_false_eq_true, Nat.reduceBEq, Nat.reduceAdd, Nat.reduceSub, Nat.reduceMul, Nat.reduceLeDiff, Nat.reduceEqDiff, Nat.reduceLT, Int.reduceNeg, Int.reduceAdd, Int.reduceSub, Int.reduceMul, Int.reduceLE, Int.reduceLT, Int.reduceEq, Int.reduceToNat, reduceCtorEq]
  generalize hx : callS (runD tab noExt _) _ 98 _ false = X
  obtain ⟨ca, cb, a, b, i, j, p', rfl, g1, g2⟩ := ex_pair (hp := []) (t := []) hx (by omega) (by omega) hb rfl rfl
  clear hx
  simp -implicitDefEqProofs only [go_sem, Nat.sub_zero, List.drop_zero, eq_self, Option.getD_none, Option.getD_some, Option.isSome_none, Option.isSome_some, Option.isNone_none, Option.isNone_some, Bool.or_false, Bool.false_or, Bool.and_false, Bool.false_and, Int.le_refl, Nat.le_refl, List.length_map, List.getElem?_map, Int.natCast_add, Int.natCast_one, List.append_assoc, List.length_append, Nat.add_assoc, and_self, and_true, true_and, and_false, false_and, or_true, true_or, or_false, false_or, not_true_eq_false, not_false_eq_true, Int.cast_ofNat_Int, Int.natCast_nonneg, Int.toNat_natCast, ne_eq, not_true_eq_false, not_false_eq_true, Nat.reduceBEq, Nat.reduceAdd, Nat.reduceSub, Nat.reduceMul, Nat.reduceLeDiff, Nat.reduceEqDiff, Nat.reduceLT, Int.reduceNeg, Int.reduceAdd, Int.reduceSub, Int.reduceMul, Int.reduceLE, Int.reduceLT, Int.reduceEq, Int.reduceToNat, reduceCtorEq]
  exact ⟨ca, cb, a, b, i, j, rfl, g2⟩
def null1 (j : Int) (o : Bool) (x : Row) : Bool := if o then true else decide ((valAt j x).kind = 0)
theorem null_fold (j : Int) : ∀ (rs : List Row) (o : Bool), rs.foldl (null1 j) o = (o || nullIn j rs)
  | [], o => by simp [nullIn]
  | x :: r, o => by
    rw [List.foldl_cons, null_fold j r]
    unfold null1 nullIn
    cases o <;> simp
theorem loop_null (d : Nat) (ca cb : List Col) (a b0' got : List Row) (i0 j : Int) (hj : HasCol j b0') (hs : b0'.length < 1099511627776) (K : Nat) (hK : (b0').length ≤ K) (b0 : Bool) (hb0 : (fun (i : Nat) (b : Bool) => True) 0 b0) : LoopS (runD tab noExt d) (drawI (runD tab noExt d)) [3, 4, 5, 6, 7, 8, 9, 10, 11] [3, 4, 5, 6, 7, 8, 9, 10] L11x0 ([] : Heap).length K [(3, .sl false 2 (ca.map Col.cells)), (4, .sl false 2 (cb.map Col.cells)), (5, .sl false 1 (a.map Row.cells)), (6, .sl false 1 (b0'.map Row.cells)), (7, .int .i64 i0), (8, .int .i64 j), (9, .sl true 1 (got.map Row.cells)), (10, .bool b0), (11, .int .i64 (0 : Nat))] [] = (some (.exit 0, [(3, .sl false 2 (ca.map Col.cells)), (4, .sl false 2 (cb.map Col.cells)), (5, .sl false 1 (a.map Row.cells)), (6, .sl false 1 (b0'.map Row.cells)), (7, .int .i64 i0), (8, .int .i64 j), (9, .sl true 1 (got.map Row.cells)), (10, .bool ((b0').foldl (null1 j) b0))], []) : Out) ∧ (fun (i : Nat) (b : Bool) => True) (b0').length ((b0').foldl (null1 j) b0) := by
  have key := LoopS_foldI (run := (runD tab noExt d)) (draw := drawI (runD tab noExt d)) (live := [3, 4, 5, 6, 7, 8, 9, 10, 11]) (out := [3, 4, 5, 6, 7, 8, 9, 10]) (c := L11x0) (n0 := ([] : Heap).length) (b0') (null1 j) (fun (i : Nat) (b : Bool) => True) (fun (i : Nat) (b : Bool) => [(3, .sl false 2 (ca.map Col.cells)), (4, .sl false 2 (cb.map Col.cells)), (5, .sl false 1 (a.map Row.cells)), (6, .sl false 1 (b0'.map Row.cells)), (7, .int .i64 i0), (8, .int .i64 j), (9, .sl true 1 (got.map Row.cells)), (10, .bool b), (11, .int .i64 (i : Nat))]) (fun (i : Nat) (b : Bool) => []) (fun b => (some (.exit 0, [(3, .sl false 2 (ca.map Col.cells)), (4, .sl false 2 (cb.map Col.cells)), (5, .sl false 1 (a.map Row.cells)), (6, .sl false 1 (b0'.map Row.cells)), (7, .int .i64 i0), (8, .int .i64 j), (9, .sl true 1 (got.map Row.cells)), (10, .bool b)], []) : Out)) (fun b K hb => ?_) (fun (i : Nat) (x : Row) b K hi hx hb => ?_) K hK b0 hb0
  · simp only [Int.natCast_zero] at key
    exact key
  · rw [LoopS_eq]
    simp -implicitDefEqProofs only [go_sem, Nat.sub_zero, List.drop_zero, eq_self, Option.getD_none, Option.getD_some, Option.isSome_none, Option.isSome_some, Option.isNone_none, Option.isNone_some, Bool.or_false, Bool.false_or, Bool.and_false, Bool.false_and, Int.le_refl, Nat.le_refl, List.length_map, List.getElem?_map, Int.natCast_add, Int.natCast_one, List.append_assoc, List.length_append, Nat.add_assoc, and_self, and_true, true_and, and_false, false_and, or_true, true_or, or_false, false_or, not_true_eq_false, not_false_eq_true, Int.cast_ofNat_Int, Int.natCast_nonneg, Int.toNat_natCast, ne_eq, not_true_eq_false, not_false_eq_true, Nat.reduceBEq, Nat.reduceAdd, Nat.reduceSub, Nat.reduceMul, Nat.reduceLeDiff, Nat.reduceEqDiff, Nat.reduceLT, Int.reduceNeg, Int.reduceAdd, Int.reduceSub, Int.reduceMul, Int.reduceLE, Int.reduceLT, Int.reduceEq, Int.reduceToNat, reduceCtorEq, evL11x0, B11x0, Int.lt_irrefl]
  · have hj0 := hj.1; have hat := HasCol_at hj hx; cases hb1 : b
    all_goals
      refine ⟨?_, ?_⟩
      · trivial
      · rw [LoopS_eq]
        simp -implicitDefEqProofs (disch := first | omega | assumption) only [go_sem, Nat.sub_zero, List.drop_zero, eq_self, Option.getD_none, Option.getD_some, Option.isSome_none, Option.isSome_some, Option.isNone_none, Option.isNone_some, Bool.or_false, Bool.false_or, Bool.and_false, Bool.false_and, Int.le_refl, Nat.le_refl, List.length_map, List.getElem?_map, Int.natCast_add, Int.natCast_one, List.append_assoc, List.length_append, Nat.add_assoc, and_self, and_true, true_and, and_false, false_and, or_true, true_or, or_false, false_or, not_true_eq_false, not_false_eq_true, Int.cast_ofNat_Int, Int.natCast_nonneg, Int.toNat_natCast, ne_eq, not_true_eq_false, not_false_eq_true, Nat.reduceBEq, Nat.reduceAdd, Nat.reduceSub, Nat.reduceMul, Nat.reduceLeDiff, Nat.reduceEqDiff, Nat.reduceLT, Int.reduceNeg, Int.reduceAdd, Int.reduceSub, Int.reduceMul, Int.reduceLE, Int.reduceLT, Int.reduceEq, Int.reduceToNat, reduceCtorEq, evL11x0, B11x0, hi, hx, IntWalk.i64_in, List.map_append, List.foldl_cons, Row.cells, Row.v, Val.cells, hat, hj0, hb1]
        (simp -implicitDefEqProofs (disch := first | omega | assumption) only [go_sem, Nat.sub_zero, List.drop_zero, eq_self, Option.getD_none, Option.getD_some, Option.isSome_none, Option.isSome_some, Option.isNone_none, Option.isNone_some, Bool.or_false, Bool.false_or, Bool.and_false, Bool.false_and, Int.le_refl, Nat.le_refl, List.length_map, List.getElem?_map, Int.natCast_add, Int.natCast_one, List.append_assoc, List.length_append, Nat.add_assoc, and_self, and_true, true_and, and_false, false_and, or_true, true_or, or_false, false_or, not_true_eq_false, not_false_eq_true, Int.cast_ofNat_Int, Int.natCast_nonneg, Int.toNat_natCast, ne_eq, not_true_eq_false, not_false_eq_true, Nat.reduceBEq, Nat.reduceAdd, Nat.reduceSub, Nat.reduceMul, Nat.reduceLeDiff, Nat.reduceEqDiff, Nat.reduceLT, Int.reduceNeg, Int.reduceAdd, Int.reduceSub, Int.reduceMul, Int.reduceLE, Int.reduceLT, Int.reduceEq, Int.reduceToNat, reduceCtorEq, null1, if_true, if_false, Bool.false_eq_true])
theorem loop_out (d : Nat) (a b0' got inn : List Row) (i0 : Int) (hi0 : HasCol i0 a) (ha : Fine a) (hin : inn.length < 4294967296) (sin : Short inn) (K : Nat) (hK : (a).length ≤ K) (b0 : List Row) (hb0 : (fun (i : Nat) (b : List Row) => b.length ≤ i) 0 b0) : LoopS (runD tab noExt (d + 2)) (drawI (runD tab noExt (d + 2))) [5, 6, 7, 9, 10, 12, 13, 14] [9, 13] L11x1 ([.rows (b0).length 1 ((b0).map Row.cells)] : Heap).length K [(5, .sl false 1 (a.map Row.cells)), (6, .sl false 1 (b0'.map Row.cells)), (7, .int .i64 i0), (9, .sl true 1 (got.map Row.cells)), (10, .bool false), (12, .sl true 1 (inn.map Row.cells)), (13, .ref 0 (b0).length 0 (b0).length false), (14, .int .i64 (0 : Nat))] [.rows (b0).length 1 ((b0).map Row.cells)] = (some (.exit 2, [(9, .sl true 1 (got.map Row.cells)), (13, .ref 0 (((a).foldl (keep1 (outQ inn b0' i0)) b0)).length 0 (((a).foldl (keep1 (outQ inn b0' i0)) b0)).length false)], [.rows (((a).foldl (keep1 (outQ inn b0' i0)) b0)).length 1 ((((a).foldl (keep1 (outQ inn b0' i0)) b0)).map Row.cells)]) : Out) ∧ (fun (i : Nat) (b : List Row) => b.length ≤ i) (a).length ((a).foldl (keep1 (outQ inn b0' i0)) b0) := by
  have key := LoopS_foldI (run := (runD tab noExt (d + 2))) (draw := drawI (runD tab noExt (d + 2))) (live := [5, 6, 7, 9, 10, 12, 13, 14]) (out := [9, 13]) (c := L11x1) (n0 := ([.rows (b0).length 1 ((b0).map Row.cells)] : Heap).length) (a) (keep1 (outQ inn b0' i0)) (fun (i : Nat) (b : List Row) => b.length ≤ i) (fun (i : Nat) (b : List Row) => [(5, .sl false 1 (a.map Row.cells)), (6, .sl false 1 (b0'.map Row.cells)), (7, .int .i64 i0), (9, .sl true 1 (got.map Row.cells)), (10, .bool false), (12, .sl true 1 (inn.map Row.cells)), (13, .ref 0 (b).length 0 (b).length false), (14, .int .i64 (i : Nat))]) (fun (i : Nat) (b : List Row) => [.rows (b).length 1 ((b).map Row.cells)]) (fun b => (some (.exit 2, [(9, .sl true 1 (got.map Row.cells)), (13, .ref 0 (b).length 0 (b).length false)], [.rows (b).length 1 ((b).map Row.cells)]) : Out)) (fun b K hb => ?_) (fun (i : Nat) (x : Row) b K hi hx hb => ?_) K hK b0 hb0
  · simp only [Int.natCast_zero] at key
    exact key
  · rw [LoopS_eq]
    simp -implicitDefEqProofs only [go_sem, Nat.sub_zero, List.drop_zero, eq_self, Option.getD_none, Option.getD_some, Option.isSome_none, Option.isSome_some, Option.isNone_none, Option.isNone_some, Bool.or_false, Bool.false_or, Bool.and_false, Bool.false_and, Int.le_refl, Nat.le_refl, List.length_map, List.getElem?_map, Int.natCast_add, Int.natCast_one, List.append_assoc, List.length_append, Nat.add_assoc, and_self, and_true, true_and, and_false, false_and, or_true, true_or, or_false, false_or, not_true_eq_false, not_false_eq_true, Int.cast_ofNat_Int, Int.natCast_nonneg, Int.toNat_natCast, ne_eq, not_true_eq_false, not_false_eq_true, Nat.reduceBEq, Nat.reduceAdd, Nat.reduceSub, Nat.reduceMul, Nat.reduceLeDiff, Nat.reduceEqDiff, Nat.reduceLT, Int.reduceNeg, Int.reduceAdd, Int.reduceSub, Int.reduceMul, Int.reduceLE, Int.reduceLT, Int.reduceEq, Int.reduceToNat, reduceCtorEq, evL11x1, B11x1, Int.lt_irrefl]
  · have ha1 := ha.1; have hsm := le_small hb hi ha.1; have hi00 := hi0.1; have hat := HasCol_at hi0 hx; have hm := run_many d true x.clip inn x.vs hin (Fine_at ha hx) sin; by_cases e1 : manyR inn x.vs = 0 <;> by_cases e2 : (valAt i0 x).kind = 0 <;> by_cases e3 : (b0'.length : Int) = 0
    all_goals
      refine ⟨?_, ?_⟩
      · exact keep1_len hb
      · rw [LoopS_eq]
        simp -implicitDefEqProofs (disch := first | omega | assumption) only [go_sem, Nat.sub_zero, List.drop_zero, eq_self, Option.getD_none, Option.getD_some, Option.isSome_none, Option.isSome_some, Option.isNone_none, Option.isNone_some, Bool.or_false, Bool.false_or, Bool.and_false, Bool.false_and, Int.le_refl, Nat.le_refl, List.length_map, List.getElem?_map, Int.natCast_add, Int.natCast_one, List.append_assoc, List.length_append, Nat.add_assoc, and_self, and_true, true_and, and_false, false_and, or_true, true_or, or_false, false_or, not_true_eq_false, not_false_eq_true, Int.cast_ofNat_Int, Int.natCast_nonneg, Int.toNat_natCast, ne_eq, not_true_eq_false, not_false_eq_true, Nat.reduceBEq, Nat.reduceAdd, Nat.reduceSub, Nat.reduceMul, Nat.reduceLeDiff, Nat.reduceEqDiff, Nat.reduceLT, Int.reduceNeg, Int.reduceAdd, Int.reduceSub, Int.reduceMul, Int.reduceLE, Int.reduceLT, Int.reduceEq, Int.reduceToNat, reduceCtorEq, evL11x1, B11x1, hi, hx, IntWalk.i64_in, List.map_append, List.foldl_cons, Row.cells, Row.v, Val.cells, hat, hi00, hm, e1, e2, e3, hsm]
        (simp -implicitDefEqProofs (disch := first | omega | assumption) only [go_sem, Nat.sub_zero, List.drop_zero, eq_self, Option.getD_none, Option.getD_some, Option.isSome_none, Option.isSome_some, Option.isNone_none, Option.isNone_some, Bool.or_false, Bool.false_or, Bool.and_false, Bool.false_and, Int.le_refl, Nat.le_refl, List.length_map, List.getElem?_map, Int.natCast_add, Int.natCast_one, List.append_assoc, List.length_append, Nat.add_assoc, and_self, and_true, true_and, and_false, false_and, or_true, true_or, or_false, false_or, not_true_eq_false, not_false_eq_true, Int.cast_ofNat_Int, Int.natCast_nonneg, Int.toNat_natCast, ne_eq, not_true_eq_false, not_false_eq_true, Nat.reduceBEq, Nat.reduceAdd, Nat.reduceSub, Nat.reduceMul, Nat.reduceLeDiff, Nat.reduceEqDiff, Nat.reduceLT, Int.reduceNeg, Int.reduceAdd, Int.reduceSub, Int.reduceMul, Int.reduceLE, Int.reduceLT, Int.reduceEq, Int.reduceToNat, reduceCtorEq, keep1, outQ, e1, e2, e3, hsm, List.map_append, List.map_cons, List.map_nil, Row.cells, Row.v, decide_true, decide_false, if_true, if_false, Bool.false_eq_true])
-- find11
theorem law_NotInRows (l : List UInt8) (hl : l.length ≤ maxLen) : ∃ d h1, runD tab noExt d 11 [.sl false 1 (cellsOfBytes l)] [] = some ([.bool true], h1) := by
  refine ⟨17, ?_⟩
  rw [runD_eq find11 _ _ _ (by simp)]
  obtain ⟨ca, cb, a, b, i, j, hd, hca, hcb, hla, hlb, ga, gb⟩ := run_drawNotIn 8 false l
  by_cases h1 : (1048576 : Int) < l.length
  · simp -implicitDefEqProofs only [go_sem, Nat.sub_zero, List.drop_zero, eq_self, Option.getD_none, Option.getD_some, Option.isSome_none, Option.isSome_some, Option.isNone_none, Option.isNone_some, Bool.or_false, Bool.false_or, Bool.and_false, Bool.false_and, Int.le_refl, Nat.le_refl, List.length_map, List.getElem?_map, Int.natCast_add, Int.natCast_one, List.append_assoc, List.length_append, Nat.add_assoc, and_self, and_true, true_and, and_false, false_and, or_true, true_or, or_false, false_or, not_true_eq_false, not_false_eq_true, Int.cast_ofNat_Int, Int.natCast_nonneg, Int.toNat_natCast, ne_eq, not_true_eq_false, not_false_eq_true, Nat.reduceBEq, Nat.reduceAdd, Nat.reduceSub, Nat.reduceMul, Nat.reduceLeDiff, Nat.reduceEqDiff, Nat.reduceLT, Int.reduceNeg, Int.reduceAdd, Int.reduceSub, Int.reduceMul, Int.reduceLE, Int.reduceLT, Int.reduceEq, Int.reduceToNat, reduceCtorEq, ofBytes_len, h1]
    exact ⟨_, rfl⟩
  · have hal := run_alive 11
    have sa := short_ofGR ga
    have sb := short_ofGR gb
    have fa := fine_ofGR ga (by omega)
    have fb := fine_ofGR gb (by omega)
    have e1 := run_notInI 1 false false false false ca cb a b i j (by omega) (by omega) fa fb sa sb
    have e2 := run_notInR 8 false false false false ca cb a b i j (by omega) (by omega) fa fb sa sb
    have e3 := run_inRowsI 1 false false false false ca cb a b i j (by omega) (by omega) fa fb sa sb
    have x1 := run_rowsOkI 4 false false ca a (by omega) (by omega) sa
    have x2 := run_rowsOkI 4 false false cb b (by omega) (by omega) sb
    have hN := @not_in ca cb a b i j
    have hnl : (own true (notRows ca cb a b i j 0)).length < 1099511627776 := by
      unfold notRows own
      split
      · rw [List.length_map]; exact Nat.lt_of_le_of_lt (List.length_filter_le _ _) (by omega)
      · decide
    have hns : ∀ r ∈ own true (notRows ca cb a b i j 0), r.vs.length < 1099511627776 := by
      intro r hr
      obtain ⟨r', hr', rfl⟩ := List.mem_map.1 hr
      unfold notRows at hr'
      split at hr'
      · exact (sa r' (List.mem_filter.1 hr').1).1
      · cases hr'
    have hsr := run_sameRows 14 true false (own true (notRows ca cb a b i j 0)) (own false (notRows ca cb a b i j 0)) hnl hns
    rw [own_vss, own_vss, decide_eq_true rfl] at hsr
    by_cases hJ : joinR ca cb a b i j = true
    · obtain ⟨r1, r2, r3, r4, r7⟩ := joinR_of hJ
      have hN := hN hJ (by omega) true
      have c1 := hasCol_of r1 r3.1 r3.2
      have c2 := hasCol_of r2 r4.1 r4.2
      have a1 := at_getD (⟨0, false⟩ : Col) (show i.toNat < ca.length by omega)
      have a2 := at_getD (⟨0, false⟩ : Col) (show j.toNat < cb.length by omega)
      obtain ⟨q1, q2⟩ := r3
      obtain ⟨q3, q4⟩ := r4
      have p1 : ¬ i < 0 := by omega
      have p2 : ¬ (ca.length : Int) ≤ i := by omega
      have p3 : ¬ j < 0 := by omega
      have p4 : ¬ (cb.length : Int) ≤ j := by omega
      have hin : (own true (notRows ca cb a b i j 1)).length < 4294967296 := by
        unfold notRows own
        rw [if_pos hJ, List.length_map]; exact Nat.lt_of_le_of_lt (List.length_filter_le _ _) (by omega)
      have sin : Short (own true (notRows ca cb a b i j 1)) := by
        intro r hr
        obtain ⟨r', hr', rfl⟩ := List.mem_map.1 hr
        unfold notRows at hr'
        rw [if_pos hJ] at hr'
        exact sa r' (List.mem_filter.1 hr').1
      have hl1 := (loop_null 16 ca cb a b (own true (notRows ca cb a b i j 0)) i j c2 (by omega) 1099511627775 (by omega) false trivial).1
      have hl2 := (loop_out 14 a b (own true (notRows ca cb a b i j 0)) (own true (notRows ca cb a b i j 1)) i c1 fa hin sin 1099511627775 (by omega) [] (Nat.le_refl _)).1
      simp only [null_fold, Bool.false_or, Int.natCast_zero, List.length_nil] at hl1
      simp only [keep_filter, List.nil_append, List.length_nil, List.map_nil, Int.natCast_zero, List.length_cons, Nat.zero_add] at hl2
      cases hn : nullIn j b
      · rw [hn, if_neg (by decide)] at hN
        rw [hn] at hl1
        rw [← hN] at hl2
        have hsr2 := run_sameRows 14 true false (own true (notRows ca cb a b i j 0)) (notRows ca cb a b i j 0) hnl hns
        rw [own_vss, decide_eq_true rfl] at hsr2
        have e5 : List.take (notRows ca cb a b i j 0).length ((notRows ca cb a b i j 0).map Row.cells) = (notRows ca cb a b i j 0).map Row.cells := List.take_of_length_le (by simp)
        generalize notRows ca cb a b i j 0 = got at *
        generalize notRows ca cb a b i j 1 = inn at *
        simp -implicitDefEqProofs (disch := first | omega | assumption) only [go_sem, Nat.sub_zero, List.drop_zero, eq_self, Option.getD_none, Option.getD_some, Option.isSome_none, Option.isSome_some, Option.isNone_none, Option.isNone_some, Bool.or_false, Bool.false_or, Bool.and_false, Bool.false_and, Int.le_refl, Nat.le_refl, List.length_map, List.getElem?_map, Int.natCast_add, Int.natCast_one, List.append_assoc, List.length_append, Nat.add_assoc, and_self, and_true, true_and, and_false, false_and, or_true, true_or, or_false, false_or, not_true_eq_false, not_false_eq_true, Int.cast_ofNat_Int, Int.natCast_nonneg, Int.toNat_natCast, ne_eq, not_true_eq_false, not_false_eq_true, Nat.reduceBEq, Nat.reduceAdd, Nat.reduceSub, Nat.reduceMul, Nat.reduceLeDiff, Nat.reduceEqDiff, Nat.reduceLT, Int.reduceNeg, Int.reduceAdd, Int.reduceSub, Int.reduceMul, Int.reduceLE, Int.reduceLT, Int.reduceEq, Int.reduceToNat, reduceCtorEq, ofBytes_len, h1, hd, e1, e2, e3, hsr, hal, x1, x2, r1, r2, p1, p2, p3, p4, a1, a2, q1, q3, r7, Col.cells, evC_draw, evD11x0, E11x0, hl1, hl2, hsr2, e5]
        exact ⟨_, rfl⟩
      · rw [hn, if_pos rfl] at hN
        rw [hn] at hl1
        rw [hN] at e1 e2 hsr hl1
        simp only [own, List.map_nil] at e1 e2 hsr hl1 e3
        by_cases h0 : (0 : Int) < a.length
        · simp -implicitDefEqProofs (disch := first | omega | assumption) only [go_sem, Nat.sub_zero, List.drop_zero, eq_self, Option.getD_none, Option.getD_some, Option.isSome_none, Option.isSome_some, Option.isNone_none, Option.isNone_some, Bool.or_false, Bool.false_or, Bool.and_false, Bool.false_and, Int.le_refl, Nat.le_refl, List.length_map, List.getElem?_map, Int.natCast_add, Int.natCast_one, List.append_assoc, List.length_append, Nat.add_assoc, and_self, and_true, true_and, and_false, false_and, or_true, true_or, or_false, false_or, not_true_eq_false, not_false_eq_true, Int.cast_ofNat_Int, Int.natCast_nonneg, Int.toNat_natCast, ne_eq, not_true_eq_false, not_false_eq_true, Nat.reduceBEq, Nat.reduceAdd, Nat.reduceSub, Nat.reduceMul, Nat.reduceLeDiff, Nat.reduceEqDiff, Nat.reduceLT, Int.reduceNeg, Int.reduceAdd, Int.reduceSub, Int.reduceMul, Int.reduceLE, Int.reduceLT, Int.reduceEq, Int.reduceToNat, reduceCtorEq, ofBytes_len, h1, hd, e1, e2, e3, hsr, hal, x1, x2, r1, r2, p1, p2, p3, p4, a1, a2, q1, q3, r7, Col.cells, evC_draw, evD11x0, E11x0, hl1]
          rw [LoopS_eq]
          simp -implicitDefEqProofs (disch := first | omega | assumption) only [go_sem, Nat.sub_zero, List.drop_zero, eq_self, Option.getD_none, Option.getD_some, Option.isSome_none, Option.isSome_some, Option.isNone_none, Option.isNone_some, Bool.or_false, Bool.false_or, Bool.and_false, Bool.false_and, Int.le_refl, Nat.le_refl, List.length_map, List.getElem?_map, Int.natCast_add, Int.natCast_one, List.append_assoc, List.length_append, Nat.add_assoc, and_self, and_true, true_and, and_false, false_and, or_true, true_or, or_false, false_or, not_true_eq_false, not_false_eq_true, Int.cast_ofNat_Int, Int.natCast_nonneg, Int.toNat_natCast, ne_eq, not_true_eq_false, not_false_eq_true, Nat.reduceBEq, Nat.reduceAdd, Nat.reduceSub, Nat.reduceMul, Nat.reduceLeDiff, Nat.reduceEqDiff, Nat.reduceLT, Int.reduceNeg, Int.reduceAdd, Int.reduceSub, Int.reduceMul, Int.reduceLE, Int.reduceLT, Int.reduceEq, Int.reduceToNat, reduceCtorEq, evL11x1, B11x1, h0, hsr, hal]
          exact ⟨_, rfl⟩
        · simp -implicitDefEqProofs (disch := first | omega | assumption) only [go_sem, Nat.sub_zero, List.drop_zero, eq_self, Option.getD_none, Option.getD_some, Option.isSome_none, Option.isSome_some, Option.isNone_none, Option.isNone_some, Bool.or_false, Bool.false_or, Bool.and_false, Bool.false_and, Int.le_refl, Nat.le_refl, List.length_map, List.getElem?_map, Int.natCast_add, Int.natCast_one, List.append_assoc, List.length_append, Nat.add_assoc, and_self, and_true, true_and, and_false, false_and, or_true, true_or, or_false, false_or, not_true_eq_false, not_false_eq_true, Int.cast_ofNat_Int, Int.natCast_nonneg, Int.toNat_natCast, ne_eq, not_true_eq_false, not_false_eq_true, Nat.reduceBEq, Nat.reduceAdd, Nat.reduceSub, Nat.reduceMul, Nat.reduceLeDiff, Nat.reduceEqDiff, Nat.reduceLT, Int.reduceNeg, Int.reduceAdd, Int.reduceSub, Int.reduceMul, Int.reduceLE, Int.reduceLT, Int.reduceEq, Int.reduceToNat, reduceCtorEq, ofBytes_len, h1, hd, e1, e2, e3, hsr, hal, x1, x2, r1, r2, p1, p2, p3, p4, a1, a2, q1, q3, r7, Col.cells, evC_draw, evD11x0, E11x0, hl1]
          rw [LoopS_eq]
          simp -implicitDefEqProofs (disch := first | omega | assumption) only [go_sem, Nat.sub_zero, List.drop_zero, eq_self, Option.getD_none, Option.getD_some, Option.isSome_none, Option.isSome_some, Option.isNone_none, Option.isNone_some, Bool.or_false, Bool.false_or, Bool.and_false, Bool.false_and, Int.le_refl, Nat.le_refl, List.length_map, List.getElem?_map, Int.natCast_add, Int.natCast_one, List.append_assoc, List.length_append, Nat.add_assoc, and_self, and_true, true_and, and_false, false_and, or_true, true_or, or_false, false_or, not_true_eq_false, not_false_eq_true, Int.cast_ofNat_Int, Int.natCast_nonneg, Int.toNat_natCast, ne_eq, not_true_eq_false, not_false_eq_true, Nat.reduceBEq, Nat.reduceAdd, Nat.reduceSub, Nat.reduceMul, Nat.reduceLeDiff, Nat.reduceEqDiff, Nat.reduceLT, Int.reduceNeg, Int.reduceAdd, Int.reduceSub, Int.reduceMul, Int.reduceLE, Int.reduceLT, Int.reduceEq, Int.reduceToNat, reduceCtorEq, evL11x1, B11x1, h0, hsr, hal]
          exact ⟨_, rfl⟩
    · have hz : notRows ca cb a b i j 0 = [] := by unfold notRows; rw [if_neg hJ]
      rw [hz] at e1 e2 hsr
      simp only [own, List.map_nil] at e1 e2 hsr
      have hnJ : rowsOk ca a = true → rowsOk cb b = true → ¬ i < 0 → ¬ (ca.length : Int) ≤ i → ¬ j < 0 → ¬ (cb.length : Int) ≤ j → ¬ (ca.getD i.toNat ⟨0, false⟩).kind = (cb.getD j.toNat ⟨0, false⟩).kind := by
        intro r1 r2 r3 r4 r5 r6 r7
        apply hJ
        unfold joinR
        simp only [r1, r2, Bool.true_and, Bool.and_eq_true, decide_eq_true_eq]
        exact ⟨by omega, by omega, r7, by omega, by omega, by omega⟩
      cases r1 : rowsOk ca a
      · simp -implicitDefEqProofs (disch := first | omega | assumption) only [go_sem, Nat.sub_zero, List.drop_zero, eq_self, Option.getD_none, Option.getD_some, Option.isSome_none, Option.isSome_some, Option.isNone_none, Option.isNone_some, Bool.or_false, Bool.false_or, Bool.and_false, Bool.false_and, Int.le_refl, Nat.le_refl, List.length_map, List.getElem?_map, Int.natCast_add, Int.natCast_one, List.append_assoc, List.length_append, Nat.add_assoc, and_self, and_true, true_and, and_false, false_and, or_true, true_or, or_false, false_or, not_true_eq_false, not_false_eq_true, Int.cast_ofNat_Int, Int.natCast_nonneg, Int.toNat_natCast, ne_eq, not_true_eq_false, not_false_eq_true, Nat.reduceBEq, Nat.reduceAdd, Nat.reduceSub, Nat.reduceMul, Nat.reduceLeDiff, Nat.reduceEqDiff, Nat.reduceLT, Int.reduceNeg, Int.reduceAdd, Int.reduceSub, Int.reduceMul, Int.reduceLE, Int.reduceLT, Int.reduceEq, Int.reduceToNat, reduceCtorEq, ofBytes_len, h1, hd, e1, e2, hsr, hal, x1, x2, r1, evC_draw, evD11x0, E11x0]
        exact ⟨_, rfl⟩
      · cases r2 : rowsOk cb b
        · simp -implicitDefEqProofs (disch := first | omega | assumption) only [go_sem, Nat.sub_zero, List.drop_zero, eq_self, Option.getD_none, Option.getD_some, Option.isSome_none, Option.isSome_some, Option.isNone_none, Option.isNone_some, Bool.or_false, Bool.false_or, Bool.and_false, Bool.false_and, Int.le_refl, Nat.le_refl, List.length_map, List.getElem?_map, Int.natCast_add, Int.natCast_one, List.append_assoc, List.length_append, Nat.add_assoc, and_self, and_true, true_and, and_false, false_and, or_true, true_or, or_false, false_or, not_true_eq_false, not_false_eq_true, Int.cast_ofNat_Int, Int.natCast_nonneg, Int.toNat_natCast, ne_eq, not_true_eq_false, not_false_eq_true, Nat.reduceBEq, Nat.reduceAdd, Nat.reduceSub, Nat.reduceMul, Nat.reduceLeDiff, Nat.reduceEqDiff, Nat.reduceLT, Int.reduceNeg, Int.reduceAdd, Int.reduceSub, Int.reduceMul, Int.reduceLE, Int.reduceLT, Int.reduceEq, Int.reduceToNat, reduceCtorEq, ofBytes_len, h1, hd, e1, e2, hsr, hal, x1, x2, r1, r2, evC_draw, evD11x0, E11x0]
          exact ⟨_, rfl⟩
        · by_cases p1 : i < 0
          · simp -implicitDefEqProofs (disch := first | omega | assumption) only [go_sem, Nat.sub_zero, List.drop_zero, eq_self, Option.getD_none, Option.getD_some, Option.isSome_none, Option.isSome_some, Option.isNone_none, Option.isNone_some, Bool.or_false, Bool.false_or, Bool.and_false, Bool.false_and, Int.le_refl, Nat.le_refl, List.length_map, List.getElem?_map, Int.natCast_add, Int.natCast_one, List.append_assoc, List.length_append, Nat.add_assoc, and_self, and_true, true_and, and_false, false_and, or_true, true_or, or_false, false_or, not_true_eq_false, not_false_eq_true, Int.cast_ofNat_Int, Int.natCast_nonneg, Int.toNat_natCast, ne_eq, not_true_eq_false, not_false_eq_true, Nat.reduceBEq, Nat.reduceAdd, Nat.reduceSub, Nat.reduceMul, Nat.reduceLeDiff, Nat.reduceEqDiff, Nat.reduceLT, Int.reduceNeg, Int.reduceAdd, Int.reduceSub, Int.reduceMul, Int.reduceLE, Int.reduceLT, Int.reduceEq, Int.reduceToNat, reduceCtorEq, ofBytes_len, h1, hd, e1, e2, hsr, hal, x1, x2, r1, r2, p1, evC_draw, evD11x0, E11x0]
            exact ⟨_, rfl⟩
          · by_cases p2 : (ca.length : Int) ≤ i
            · simp -implicitDefEqProofs (disch := first | omega | assumption) only [go_sem, Nat.sub_zero, List.drop_zero, eq_self, Option.getD_none, Option.getD_some, Option.isSome_none, Option.isSome_some, Option.isNone_none, Option.isNone_some, Bool.or_false, Bool.false_or, Bool.and_false, Bool.false_and, Int.le_refl, Nat.le_refl, List.length_map, List.getElem?_map, Int.natCast_add, Int.natCast_one, List.append_assoc, List.length_append, Nat.add_assoc, and_self, and_true, true_and, and_false, false_and, or_true, true_or, or_false, false_or, not_true_eq_false, not_false_eq_true, Int.cast_ofNat_Int, Int.natCast_nonneg, Int.toNat_natCast, ne_eq, not_true_eq_false, not_false_eq_true, Nat.reduceBEq, Nat.reduceAdd, Nat.reduceSub, Nat.reduceMul, Nat.reduceLeDiff, Nat.reduceEqDiff, Nat.reduceLT, Int.reduceNeg, Int.reduceAdd, Int.reduceSub, Int.reduceMul, Int.reduceLE, Int.reduceLT, Int.reduceEq, Int.reduceToNat, reduceCtorEq, ofBytes_len, h1, hd, e1, e2, hsr, hal, x1, x2, r1, r2, p1, p2, evC_draw, evD11x0, E11x0]
              exact ⟨_, rfl⟩
            · by_cases p3 : j < 0
              · simp -implicitDefEqProofs (disch := first | omega | assumption) only [go_sem, Nat.sub_zero, List.drop_zero, eq_self, Option.getD_none, Option.getD_some, Option.isSome_none, Option.isSome_some, Option.isNone_none, Option.isNone_some, Bool.or_false, Bool.false_or, Bool.and_false, Bool.false_and, Int.le_refl, Nat.le_refl, List.length_map, List.getElem?_map, Int.natCast_add, Int.natCast_one, List.append_assoc, List.length_append, Nat.add_assoc, and_self, and_true, true_and, and_false, false_and, or_true, true_or, or_false, false_or, not_true_eq_false, not_false_eq_true, Int.cast_ofNat_Int, Int.natCast_nonneg, Int.toNat_natCast, ne_eq, not_true_eq_false, not_false_eq_true, Nat.reduceBEq, Nat.reduceAdd, Nat.reduceSub, Nat.reduceMul, Nat.reduceLeDiff, Nat.reduceEqDiff, Nat.reduceLT, Int.reduceNeg, Int.reduceAdd, Int.reduceSub, Int.reduceMul, Int.reduceLE, Int.reduceLT, Int.reduceEq, Int.reduceToNat, reduceCtorEq, ofBytes_len, h1, hd, e1, e2, hsr, hal, x1, x2, r1, r2, p1, p2, p3, evC_draw, evD11x0, E11x0]
                exact ⟨_, rfl⟩
              · by_cases p4 : (cb.length : Int) ≤ j
                · simp -implicitDefEqProofs (disch := first | omega | assumption) only [go_sem, Nat.sub_zero, List.drop_zero, eq_self, Option.getD_none, Option.getD_some, Option.isSome_none, Option.isSome_some, Option.isNone_none, Option.isNone_some, Bool.or_false, Bool.false_or, Bool.and_false, Bool.false_and, Int.le_refl, Nat.le_refl, List.length_map, List.getElem?_map, Int.natCast_add, Int.natCast_one, List.append_assoc, List.length_append, Nat.add_assoc, and_self, and_true, true_and, and_false, false_and, or_true, true_or, or_false, false_or, not_true_eq_false, not_false_eq_true, Int.cast_ofNat_Int, Int.natCast_nonneg, Int.toNat_natCast, ne_eq, not_true_eq_false, not_false_eq_true, Nat.reduceBEq, Nat.reduceAdd, Nat.reduceSub, Nat.reduceMul, Nat.reduceLeDiff, Nat.reduceEqDiff, Nat.reduceLT, Int.reduceNeg, Int.reduceAdd, Int.reduceSub, Int.reduceMul, Int.reduceLE, Int.reduceLT, Int.reduceEq, Int.reduceToNat, reduceCtorEq, ofBytes_len, h1, hd, e1, e2, hsr, hal, x1, x2, r1, r2, p1, p2, p3, p4, evC_draw, evD11x0, E11x0]
                  exact ⟨_, rfl⟩
                · have r7 := hnJ r1 r2 p1 p2 p3 p4
                  have a1 := at_getD (⟨0, false⟩ : Col) (show i.toNat < ca.length by omega)
                  have a2 := at_getD (⟨0, false⟩ : Col) (show j.toNat < cb.length by omega)
                  have q1 : 0 ≤ i := by omega
                  have q3 : 0 ≤ j := by omega
                  simp -implicitDefEqProofs (disch := first | omega | assumption) only [go_sem, Nat.sub_zero, List.drop_zero, eq_self, Option.getD_none, Option.getD_some, Option.isSome_none, Option.isSome_some, Option.isNone_none, Option.isNone_some, Bool.or_false, Bool.false_or, Bool.and_false, Bool.false_and, Int.le_refl, Nat.le_refl, List.length_map, List.getElem?_map, Int.natCast_add, Int.natCast_one, List.append_assoc, List.length_append, Nat.add_assoc, and_self, and_true, true_and, and_false, false_and, or_true, true_or, or_false, false_or, not_true_eq_false, not_false_eq_true, Int.cast_ofNat_Int, Int.natCast_nonneg, Int.toNat_natCast, ne_eq, not_true_eq_false, not_false_eq_true, Nat.reduceBEq, Nat.reduceAdd, Nat.reduceSub, Nat.reduceMul, Nat.reduceLeDiff, Nat.reduceEqDiff, Nat.reduceLT, Int.reduceNeg, Int.reduceAdd, Int.reduceSub, Int.reduceMul, Int.reduceLE, Int.reduceLT, Int.reduceEq, Int.reduceToNat, reduceCtorEq, ofBytes_len, h1, hd, e1, e2, hsr, hal, x1, x2, r1, r2, p1, p2, p3, p4, q1, q3, a1, a2, r7, Col.cells, evC_draw, evD11x0, E11x0]
                  exact ⟨_, rfl⟩
end Go.Proofs.Ytgepapgabnaonaa.PE
