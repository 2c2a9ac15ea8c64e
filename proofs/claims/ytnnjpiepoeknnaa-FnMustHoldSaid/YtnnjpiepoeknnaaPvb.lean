/- What the laws of bounds draw. -/
import Derived.Test.YtnnjpiepoeknnaaPva
set_option linter.unusedSimpArgs false
set_option linter.unusedVariables false
set_option maxHeartbeats 4000000
namespace Go.Proofs.Ytnnjpiepoeknnaa.PE
open Go.RowKit

theorem short_of {rs : List Row} (h : ∀ r ∈ rs, GR r.vs) : Short rs := fun r hr => ⟨Nat.lt_of_le_of_lt (h r hr).1 (by decide), fun v hv => Nat.lt_of_le_of_lt ((h r hr).2 v hv) (by decide)⟩
theorem foldl_short {i : Int} : ∀ {rs : List Row} {k : Kn}, Short rs → k.short → (rs.foldl (fun k r => knBoth k (knOf (colAt i r))) k).short
  | [], _, _, hk => hk
  | r :: rs, k, h, hk => by
    refine foldl_short (rs := rs) (fun x hx => h x (List.mem_cons_of_mem _ hx)) (knBoth_short hk (knOf_short ?_))
    unfold colAt
    rw [List.getD_eq_getElem?_getD]
    cases hg : r.vs[i.toNat]? with
    | none => show (⟨#[]⟩ : ByteArray).size < _; rw [empty_size]; omega
    | some v => exact (h r List.mem_cons_self).2 v (List.mem_of_getElem? hg)
theorem knCol_short {cs : List Col} {rs : List Row} {i : Int} (h : Short rs) : (knCol cs rs i).short := by
  unfold knCol
  split
  · split
    · exact Kn.zero_short
    · split
      · exact foldl_short h Kn.zero_short
      · exact Kn.zero_short
  · exact Kn.zero_short

def AgPost (k : Kn) (v : Val) : Prop := k.short ∧ v.s.size ≤ 20
-- find75
theorem ex_against {d : Nat} {hp t : Heap} {c : Bool} {bs : List UInt8} {p : Int} {X : Option (V × Heap)} (hx : callS (runD tab noExt (d + 7)) (hp ++ .box [.sl c 1 (cellsOfBytes bs), .int .i64 (p)] :: t) 75 [.ptr hp.length 0 0 0] false = X)
    (hp0 : 0 ≤ p) (hq : p ≤ 1099200000000) (hb : bs.length ≤ 2000) (hhp : plainH hp = true) (ht : plainH t = true) :
    ∃ (k : Kn) (kd : Int) (v : Val) (p' : Int), X = some (.tup [.agg k.cells, .int .i64 kd, Val.enc v], hp ++ .box [.sl c 1 (cellsOfBytes bs), .int .i64 (p')] :: t) ∧ p ≤ p' ∧ p' ≤ p + 4000 ∧ AgPost k v := by
  subst hx
  have hh : ∀ n, t.all (hiB n) = true := fun n => plainH_hi ht n
  have hhq : ∀ n, hp.all (hiB n) = true := fun n => plainH_hi hhp n
  rw [callS_eq, runD_eq find75 _ _ _ (by simp)]
  simp (disch := omega) only [go_sem, List.length_map, List.getElem?_map, Int.natCast_add, Int.natCast_one, List.append_assoc, List.length_append, Nat.add_assoc, and_self, and_true, true_and, and_false, false_and, or_true, true_or, or_false, false_or, not_true_eq_false, not_false_eq_true, Int.cast_ofNat_Int, Int.natCast_nonneg, Int.toNat_natCast, ne_eq, not_true_eq_false, not_false_eq_true, Nat.reduceBEq, Nat.reduceAdd, Nat.reduceSub, Nat.reduceMul, Nat.reduceLeDiff, Nat.reduceEqDiff, Nat.reduceLT, Int.reduceNeg, Int.reduceAdd, Int.reduceSub, Int.reduceMul, Int.reduceLE, Int.reduceLT, Int.reduceEq, Int.reduceToNat, reduceCtorEq, hh, hhq, List.all_append]
  generalize hx : callS (runD tab noExt _) _ 86 _ false = X
  obtain ⟨cs, rs, i, p1, rfl, g1, g2, g3, g4, g5, g6, g7⟩ := ex_bounded hx (by omega) (by omega) hb hhp (by simp only [ht, plainH_nil, plainH_cons, plainH_append, plainB, List.all_cons, List.all_nil, Bool.and_self, Bool.and_true])
  clear hx
  obtain ⟨g7, g8⟩ := g7 (by omega)
  have hsh := short_of g6
  have hks := knCol_short (cs := cs) (i := i) hsh
  have hat := at_getD (⟨0, false⟩ : Col) (show i.toNat < cs.length by omega)
  have fin : ∀ (k : Kn) (kd : Int) (v : Val) (q : Int), p ≤ q → q ≤ p + 4000 → k.short → GV v → ∃ (k' : Kn) (kd' : Int) (v' : Val) (p' : Int), (some (.tup [.agg [.int .i64 k.many, .int .i64 k.sum, .int .i64 k.least.kind, .int .i64 k.least.n, .str k.least.s, .int .i64 k.most.kind, .int .i64 k.most.n, .str k.most.s], .int .i64 kd, .agg [.int .i64 v.kind, .int .i64 v.n, .str v.s]], hp ++ .box [.sl c 1 (cellsOfBytes bs), .int .i64 (q)] :: t) : Option (V × Heap)) = some (.tup [.agg k'.cells, .int .i64 kd', Val.enc v'], hp ++ .box [.sl c 1 (cellsOfBytes bs), .int .i64 (p')] :: t) ∧ p ≤ p' ∧ p' ≤ p + 4000 ∧ AgPost k' v' :=
    fun k kd v q h5 h6 h7 h8 => ⟨k, kd, v, q, rfl, h5, h6, h7, h8⟩
  simp (disch := first | omega | assumption) only [go_sem, List.length_map, List.getElem?_map, Int.natCast_add, Int.natCast_one, List.append_assoc, List.length_append, Nat.add_assoc, and_self, and_true, true_and, and_false, false_and, or_true, true_or, or_false, false_or, not_true_eq_false, not_false_eq_true, Int.cast_ofNat_Int, Int.natCast_nonneg, Int.toNat_natCast, ne_eq, not_true_eq_false, not_false_eq_true, Nat.reduceBEq, Nat.reduceAdd, Nat.reduceSub, Nat.reduceMul, Nat.reduceLeDiff, Nat.reduceEqDiff, Nat.reduceLT, Int.reduceNeg, Int.reduceAdd, Int.reduceSub, Int.reduceMul, Int.reduceLE, Int.reduceLT, Int.reduceEq, Int.reduceToNat, reduceCtorEq, IntWalk.i64_in, hh, hhq, List.all_append, run_knCol, Kn.cells, hat, g7, Col.cells]
  repeat' (first | ((conv in (callS _ _ 104 _ false) => skip); generalize hx : callS (runD tab noExt _) (_ ++ _ :: _) 104 _ false = X; obtain ⟨m, rfl, hn1, hn2⟩ := ex_pick hx (by omega) (by omega) hb hhp (by simp only [ht, plainH_nil, plainH_cons, plainH_append, plainB, List.all_cons, List.all_nil, Bool.and_self, Bool.and_true]) ; skip;  simp (disch := omega) only [go_sem, List.length_map, List.getElem?_map, Int.natCast_add, Int.natCast_one, List.append_assoc, List.length_append, Nat.add_assoc, and_self, and_true, true_and, and_false, false_and, or_true, true_or, or_false, false_or, not_true_eq_false, not_false_eq_true, Int.cast_ofNat_Int, Int.natCast_nonneg, Int.toNat_natCast, ne_eq, not_true_eq_false, not_false_eq_true, Nat.reduceBEq, Nat.reduceAdd, Nat.reduceSub, Nat.reduceMul, Nat.reduceLeDiff, Nat.reduceEqDiff, Nat.reduceLT, Int.reduceNeg, Int.reduceAdd, Int.reduceSub, Int.reduceMul, Int.reduceLE, Int.reduceLT, Int.reduceEq, Int.reduceToNat, reduceCtorEq, IntWalk.i64_in, hh, hhq, List.all_append, Val.enc, Kn.cells, evC_draw, evD75x0, E75x0, Int.tdiv_eq_ediv_of_nonneg, *]) | ((conv in (callS _ _ 105 _ false) => skip); generalize hx : callS (runD tab noExt _) (_ ++ _ :: _) 105 _ false = X; obtain ⟨v, p', rfl, hv1, hv2, hv3⟩ := ex_like hx (by omega) (by omega) hb hhp (by simp only [ht, plainH_nil, plainH_cons, plainH_append, plainB, List.all_cons, List.all_nil, Bool.and_self, Bool.and_true]) ; skip;  simp (disch := omega) only [go_sem, List.length_map, List.getElem?_map, Int.natCast_add, Int.natCast_one, List.append_assoc, List.length_append, Nat.add_assoc, and_self, and_true, true_and, and_false, false_and, or_true, true_or, or_false, false_or, not_true_eq_false, not_false_eq_true, Int.cast_ofNat_Int, Int.natCast_nonneg, Int.toNat_natCast, ne_eq, not_true_eq_false, not_false_eq_true, Nat.reduceBEq, Nat.reduceAdd, Nat.reduceSub, Nat.reduceMul, Nat.reduceLeDiff, Nat.reduceEqDiff, Nat.reduceLT, Int.reduceNeg, Int.reduceAdd, Int.reduceSub, Int.reduceMul, Int.reduceLE, Int.reduceLT, Int.reduceEq, Int.reduceToNat, reduceCtorEq, IntWalk.i64_in, hh, hhq, List.all_append, Val.enc, Kn.cells, evC_draw, evD75x0, E75x0, Int.tdiv_eq_ediv_of_nonneg, *]) | ((conv in (callS _ _ 145 _ false) => skip); generalize hx : callS (runD tab noExt _) (_ ++ _ :: _) 145 _ false = X; obtain ⟨v, p', rfl, hv1, hv2, hv3⟩ := ex_value hx (by omega) (by omega) hb hhp (by simp only [ht, plainH_nil, plainH_cons, plainH_append, plainB, List.all_cons, List.all_nil, Bool.and_self, Bool.and_true]) ; skip;  simp (disch := omega) only [go_sem, List.length_map, List.getElem?_map, Int.natCast_add, Int.natCast_one, List.append_assoc, List.length_append, Nat.add_assoc, and_self, and_true, true_and, and_false, false_and, or_true, true_or, or_false, false_or, not_true_eq_false, not_false_eq_true, Int.cast_ofNat_Int, Int.natCast_nonneg, Int.toNat_natCast, ne_eq, not_true_eq_false, not_false_eq_true, Nat.reduceBEq, Nat.reduceAdd, Nat.reduceSub, Nat.reduceMul, Nat.reduceLeDiff, Nat.reduceEqDiff, Nat.reduceLT, Int.reduceNeg, Int.reduceAdd, Int.reduceSub, Int.reduceMul, Int.reduceLE, Int.reduceLT, Int.reduceEq, Int.reduceToNat, reduceCtorEq, IntWalk.i64_in, hh, hhq, List.all_append, Val.enc, Kn.cells, evC_draw, evD75x0, E75x0, Int.tdiv_eq_ediv_of_nonneg, *]) | ((conv in (callS _ _ 146 _ false) => skip); generalize hx : callS (runD tab noExt _) (_ ++ _ :: _) 146 _ false = X; obtain ⟨k, p', rfl, hk1, hk2, hk3⟩ := ex_known hx (by omega) (by omega) hb hhp (by simp only [ht, plainH_nil, plainH_cons, plainH_append, plainB, List.all_cons, List.all_nil, Bool.and_self, Bool.and_true]) ; skip;  simp (disch := omega) only [go_sem, List.length_map, List.getElem?_map, Int.natCast_add, Int.natCast_one, List.append_assoc, List.length_append, Nat.add_assoc, and_self, and_true, true_and, and_false, false_and, or_true, true_or, or_false, false_or, not_true_eq_false, not_false_eq_true, Int.cast_ofNat_Int, Int.natCast_nonneg, Int.toNat_natCast, ne_eq, not_true_eq_false, not_false_eq_true, Nat.reduceBEq, Nat.reduceAdd, Nat.reduceSub, Nat.reduceMul, Nat.reduceLeDiff, Nat.reduceEqDiff, Nat.reduceLT, Int.reduceNeg, Int.reduceAdd, Int.reduceSub, Int.reduceMul, Int.reduceLE, Int.reduceLT, Int.reduceEq, Int.reduceToNat, reduceCtorEq, IntWalk.i64_in, hh, hhq, List.all_append, Val.enc, Kn.cells, evC_draw, evD75x0, E75x0, Int.tdiv_eq_ediv_of_nonneg, *]) | ((first | rw [GuardI_ndec] | rw [CondC_ndec] | rw [GuardQ_ndec] | rw [GuardV_ndec] | rw [GuardI_dec] | rw [CondC_dec] | rw [GuardQ_dec] | rw [GuardV_dec] | rw [GuardI_nby] | rw [CondC_nby] | rw [GuardQ_nby] | rw [GuardV_nby] | rw [GuardQ_by] | rw [GuardI_by] | rw [GuardV_by] | rw [CondC_by]) <;> split <;> simp (disch := omega) only [go_sem, List.length_map, List.getElem?_map, Int.natCast_add, Int.natCast_one, List.append_assoc, List.length_append, Nat.add_assoc, and_self, and_true, true_and, and_false, false_and, or_true, true_or, or_false, false_or, not_true_eq_false, not_false_eq_true, Int.cast_ofNat_Int, Int.natCast_nonneg, Int.toNat_natCast, ne_eq, not_true_eq_false, not_false_eq_true, Nat.reduceBEq, Nat.reduceAdd, Nat.reduceSub, Nat.reduceMul, Nat.reduceLeDiff, Nat.reduceEqDiff, Nat.reduceLT, Int.reduceNeg, Int.reduceAdd, Int.reduceSub, Int.reduceMul, Int.reduceLE, Int.reduceLT, Int.reduceEq, Int.reduceToNat, reduceCtorEq, IntWalk.i64_in, hh, hhq, List.all_append, Val.enc, Kn.cells, evC_draw, evD75x0, E75x0, Int.tdiv_eq_ediv_of_nonneg, *]))
  · exact fin _ _ _ _ (by omega) (by omega) hk3 (by assumption)
  · exact fin _ _ _ _ (by omega) (by omega) hks (by assumption)
  · exact fin _ _ _ _ (by omega) (by omega) hk3 (by assumption)
  · exact fin _ _ _ _ (by omega) (by omega) hks (by assumption)
end Go.Proofs.Ytnnjpiepoeknnaa.PE
