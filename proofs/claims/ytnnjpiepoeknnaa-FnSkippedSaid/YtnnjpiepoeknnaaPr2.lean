/- Rows that are drawn fit their columns. -/
import Derived.Test.YtnnjpiepoeknnaaPv9
import Derived.Test.YtnnjpiepoeknnaaPy5
set_option linter.unusedSimpArgs false
set_option linter.unusedVariables false
set_option maxHeartbeats 4000000
namespace Go.Proofs.Ytnnjpiepoeknnaa.PE
open Go.RowKit

def RF (cs : List Col) (vs : List Val) : Prop := fitsRow cs vs = true ∧ ∀ v ∈ vs, v.s.size ≤ 20
def IsRowF (cs : List Col) (x : List V) : Prop := ∃ (c : Bool) (vs : List Val), RF cs vs ∧ x = [.sl c 3 (vs.map Val.cells)]
theorem fitsF_len {cs : List Col} {vs : List Val} (hok : colsOk cs = true) (h : fitsRow cs vs = true) : vs.length ≤ 4 := by
  simp only [fitsRow, Bool.and_eq_true, decide_eq_true_eq] at h
  simp only [colsOk, Bool.and_eq_true, decide_eq_true_eq] at hok
  have := h.1.2
  have := hok.2
  omega
theorem rows_ofV {cs : List Col} : ∀ {l : List (List V)}, AllP (IsRowF cs) l → ∃ rs : List Row, l = rs.map Row.cells ∧ ∀ r ∈ rs, RF cs r.vs
  | [], _ => ⟨[], rfl, fun _ h => by cases h⟩
  | x :: r, h => by
    obtain ⟨c, vs, h1, h2⟩ := h x List.mem_cons_self
    obtain ⟨rs, h3, h4⟩ := rows_ofV (fun y hy => h y (List.mem_cons_of_mem _ hy))
    refine ⟨⟨c, vs⟩ :: rs, by rw [h2, h3]; rfl, fun v hv => ?_⟩
    rcases List.mem_cons.1 hv with rfl | hv
    · exact h1
    · exact h4 v hv
theorem rows_atV {cs : List Col} {l : List (List V)} (h : AllP (IsRowF cs) l) {i : Nat} (hi : i < l.length) : ∃ (c : Bool) (vs : List Val), RF cs vs ∧ l[i]? = some [.sl c 3 (vs.map Val.cells)] := by
  obtain ⟨c, vs, h1, h2⟩ := h (l[i]) (List.getElem_mem hi)
  exact ⟨c, vs, h1, by rw [List.getElem?_eq_getElem hi, h2]⟩
def RowsPostV (cs : List Col) (j : Nat) (cont : List (List V)) (p : Int) (cont' : List (List V)) (p' : Int) : Prop := AllP (IsRowF cs) cont' ∧ cont'.length = cont.length + j ∧ p ≤ p' ∧ p' ≤ p + 110 * j
def BagPostV (cs : List Col) (rs : List Row) : Prop := rs.length ≤ 6 ∧ ∀ r ∈ rs, RF cs r.vs
theorem RF.gr {cs : List Col} {vs : List Val} (hok : colsOk cs = true) (h : RF cs vs) : GR vs := ⟨by have := fitsF_len hok h.1; omega, h.2⟩
theorem rowsOk_ofRF {cs : List Col} {rs : List Row} (hok : colsOk cs = true) (h : ∀ r ∈ rs, RF cs r.vs) : rowsOk cs rs = true := by
  simp only [rowsOk, rowsFit, Bool.and_eq_true, List.all_eq_true]
  exact ⟨fun r hr => (h r hr).1, hok⟩
theorem loop_bagV {d : Nat} {hp t : Heap} {c c2 : Bool} {bs : List UInt8} {cs : List Col} (hb : bs.length ≤ 2000) (hhp : plainH hp = true) (ht : plainH t = true) (hok : colsOk cs = true) : ∀ (j K : Nat) {p k : Int} {st len : Nat} {cont : List (List V)} {Y : Out},
    LoopS (runD tab noExt (d + 4)) (drawI (runD tab noExt (d + 4))) [0, 1, 2, 7, 8] [7] L156x0 (hp.length + (t.length + 3)) K [(0, .ptr hp.length 0 0 0), (1, .sl c2 2 (cs.map Col.cells)), (2, .int .i64 0), (7, .ref (hp.length + (t.length + 2)) st 0 len false), (8, .int .i64 k)]
      (hp ++ .box [.sl c 1 (cellsOfBytes bs), .int .i64 (p)] :: (t ++ [.rows 0 1 [], .rows st 1 cont])) = Y →
    k = j → j ≤ K → len = cont.length → cont.length + j ≤ 2000 → AllP (IsRowF cs) cont → 0 ≤ p → p + 110 * j ≤ 1099500000000 → ∃ cont' st' p', Y = some (.exit 0, [(7, .ref (hp.length + (t.length + 2)) st' 0 cont'.length false)],
      hp ++ .box [.sl c 1 (cellsOfBytes bs), .int .i64 (p')] :: (t ++ [.rows 0 1 [], .rows st' 1 cont'])) ∧ RowsPostV cs j cont p cont' p' := by
  have hh : ∀ n, t.all (hiB n) = true := fun n => plainH_hi ht n
  have hhq : ∀ n, hp.all (hiB n) = true := fun n => plainH_hi hhp n
  intro j
  induction j with
  | zero =>
    intro K p k st len cont Y hL hk hK hlen hs hc hp0 hq
    subst hL hk hlen
    rw [LoopS_eq]
    simp -implicitDefEqProofs only [go_sem, Nat.sub_zero, List.drop_zero, eq_self, Option.getD_none, Option.getD_some, Option.isSome_none, Option.isSome_some, Option.isNone_none, Option.isNone_some, Bool.or_false, Bool.false_or, Bool.and_false, Bool.false_and, Int.le_refl, Nat.le_refl, List.length_map, List.getElem?_map, Int.natCast_add, Int.natCast_one, List.append_assoc, List.length_append, Nat.add_assoc, and_self, and_true, true_and, and_false, false_and, or_true, true_or, or_false, false_or, not_true_eq_false, not_false_eq_true, Int.cast_ofNat_Int, Int.natCast_nonneg, Int.toNat_natCast, ne_eq, not_true_eq_false, not_false_eq_true, Nat.reduceBEq, Nat.reduceAdd, Nat.reduceSub, Nat.reduceMul, Nat.reduceLeDiff, Nat.reduceEqDiff, Nat.reduceLT, Int.reduceNeg, Int.reduceAdd, Int.reduceSub, Int.reduceMul, Int.reduceLE, Int.reduceLT, Int.reduceEq, Int.reduceToNat, reduceCtorEq, evL156x0, B156x0, hh, hhq, List.all_append, Int.lt_irrefl, Int.natCast_zero]
    exact ⟨cont, st, p, rfl, hc, rfl, by omega, by omega⟩
  | succ j ih =>
    intro K p k st len cont Y hL hk hK hlen hs hc hp0 hq
    obtain ⟨K, rfl⟩ : ∃ K', K = K' + 1 := ⟨K - 1, by omega⟩
    subst hL hlen
    have hk0 : 0 < k := by omega
    have h1 : cont.length + 1 < 4294967296 := by omega
    rw [LoopS_eq]
    simp -implicitDefEqProofs (disch := omega) only [go_sem, Nat.sub_zero, List.drop_zero, eq_self, Option.getD_none, Option.getD_some, Option.isSome_none, Option.isSome_some, Option.isNone_none, Option.isNone_some, Bool.or_false, Bool.false_or, Bool.and_false, Bool.false_and, Int.le_refl, Nat.le_refl, List.length_map, List.getElem?_map, Int.natCast_add, Int.natCast_one, List.append_assoc, List.length_append, Nat.add_assoc, and_self, and_true, true_and, and_false, false_and, or_true, true_or, or_false, false_or, not_true_eq_false, not_false_eq_true, Int.cast_ofNat_Int, Int.natCast_nonneg, Int.toNat_natCast, ne_eq, not_true_eq_false, not_false_eq_true, Nat.reduceBEq, Nat.reduceAdd, Nat.reduceSub, Nat.reduceMul, Nat.reduceLeDiff, Nat.reduceEqDiff, Nat.reduceLT, Int.reduceNeg, Int.reduceAdd, Int.reduceSub, Int.reduceMul, Int.reduceLE, Int.reduceLT, Int.reduceEq, Int.reduceToNat, reduceCtorEq, evL156x0, B156x0, hh, hhq, hk0, List.all_append]
    repeat' (first | (exfalso; omega) | ((conv in (callS _ _ 104 _ false) => skip); generalize hx : callS (runD tab noExt _) (_ ++ _ :: _) 104 [_, .int .i64 (cont.length : Int)] false = X; obtain ⟨m, rfl, hm1, hm2⟩ := ex_pick hx (by omega) (by omega) hb hhp (by simp only [ht, plainH_nil, plainH_cons, plainH_append, plainB, List.all_cons, List.all_nil, Bool.and_self, Bool.and_true]) ; skip; clear hx; have hlt : m.toNat < cont.length := (by omega); obtain ⟨yc, ys, hyg, hy⟩ := rows_atV hc hlt; have hown := run_own (d + 3) yc (ys.map Val.cells) (by rw [List.length_map]; have := fitsF_len hok hyg.1; omega); simp -implicitDefEqProofs (disch := omega) only [go_sem, Nat.sub_zero, List.drop_zero, eq_self, Option.getD_none, Option.getD_some, Option.isSome_none, Option.isSome_some, Option.isNone_none, Option.isNone_some, Bool.or_false, Bool.false_or, Bool.and_false, Bool.false_and, Int.le_refl, Nat.le_refl, List.length_map, List.getElem?_map, Int.natCast_add, Int.natCast_one, List.append_assoc, List.length_append, Nat.add_assoc, and_self, and_true, true_and, and_false, false_and, or_true, true_or, or_false, false_or, not_true_eq_false, not_false_eq_true, Int.cast_ofNat_Int, Int.natCast_nonneg, Int.toNat_natCast, ne_eq, not_true_eq_false, not_false_eq_true, Nat.reduceBEq, Nat.reduceAdd, Nat.reduceSub, Nat.reduceMul, Nat.reduceLeDiff, Nat.reduceEqDiff, Nat.reduceLT, Int.reduceNeg, Int.reduceAdd, Int.reduceSub, Int.reduceMul, Int.reduceLE, Int.reduceLT, Int.reduceEq, Int.reduceToNat, reduceCtorEq, IntWalk.i64_in, hh, hhq, List.all_append, List.length_set, *]) | ((conv in (callS _ _ 104 _ false) => skip); generalize hx : callS (runD tab noExt _) (_ ++ _ :: _) 104 _ false = X; obtain ⟨m, rfl, hm1, hm2⟩ := ex_pick hx (by omega) (by omega) hb hhp (by simp only [ht, plainH_nil, plainH_cons, plainH_append, plainB, List.all_cons, List.all_nil, Bool.and_self, Bool.and_true]) ; skip; clear hx; simp -implicitDefEqProofs (disch := omega) only [go_sem, Nat.sub_zero, List.drop_zero, eq_self, Option.getD_none, Option.getD_some, Option.isSome_none, Option.isSome_some, Option.isNone_none, Option.isNone_some, Bool.or_false, Bool.false_or, Bool.and_false, Bool.false_and, Int.le_refl, Nat.le_refl, List.length_map, List.getElem?_map, Int.natCast_add, Int.natCast_one, List.append_assoc, List.length_append, Nat.add_assoc, and_self, and_true, true_and, and_false, false_and, or_true, true_or, or_false, false_or, not_true_eq_false, not_false_eq_true, Int.cast_ofNat_Int, Int.natCast_nonneg, Int.toNat_natCast, ne_eq, not_true_eq_false, not_false_eq_true, Nat.reduceBEq, Nat.reduceAdd, Nat.reduceSub, Nat.reduceMul, Nat.reduceLeDiff, Nat.reduceEqDiff, Nat.reduceLT, Int.reduceNeg, Int.reduceAdd, Int.reduceSub, Int.reduceMul, Int.reduceLE, Int.reduceLT, Int.reduceEq, Int.reduceToNat, reduceCtorEq, IntWalk.i64_in, hh, hhq, List.all_append, List.length_set, *]) | ((conv in (callS _ _ 190 _ false) => skip); generalize hx : callS (runD tab noExt _) (_ ++ _ :: _) 190 _ false = X; obtain ⟨vs, p', rfl, hv1, hv2, hv3, hv4⟩ := ex_fitV hx (by omega) (by omega) hb hhp (by simp only [ht, plainH_nil, plainH_cons, plainH_append, plainB, List.all_cons, List.all_nil, Bool.and_self, Bool.and_true]) hok; skip; clear hx; simp -implicitDefEqProofs (disch := omega) only [go_sem, Nat.sub_zero, List.drop_zero, eq_self, Option.getD_none, Option.getD_some, Option.isSome_none, Option.isSome_some, Option.isNone_none, Option.isNone_some, Bool.or_false, Bool.false_or, Bool.and_false, Bool.false_and, Int.le_refl, Nat.le_refl, List.length_map, List.getElem?_map, Int.natCast_add, Int.natCast_one, List.append_assoc, List.length_append, Nat.add_assoc, and_self, and_true, true_and, and_false, false_and, or_true, true_or, or_false, false_or, not_true_eq_false, not_false_eq_true, Int.cast_ofNat_Int, Int.natCast_nonneg, Int.toNat_natCast, ne_eq, not_true_eq_false, not_false_eq_true, Nat.reduceBEq, Nat.reduceAdd, Nat.reduceSub, Nat.reduceMul, Nat.reduceLeDiff, Nat.reduceEqDiff, Nat.reduceLT, Int.reduceNeg, Int.reduceAdd, Int.reduceSub, Int.reduceMul, Int.reduceLE, Int.reduceLT, Int.reduceEq, Int.reduceToNat, reduceCtorEq, IntWalk.i64_in, hh, hhq, List.all_append, List.length_set, *]) | ((first | rw [GuardI_ndec] | rw [CondC_ndec] | rw [GuardQ_ndec] | rw [GuardV_ndec] | rw [GuardI_dec] | rw [CondC_dec] | rw [GuardQ_dec] | rw [GuardV_dec] | rw [GuardI_nby] | rw [CondC_nby] | rw [GuardQ_nby] | rw [GuardV_nby] | rw [GuardQ_by] | rw [GuardI_by] | rw [GuardV_by] | rw [CondC_by]) <;> split <;> simp -implicitDefEqProofs (disch := omega) only [go_sem, Nat.sub_zero, List.drop_zero, eq_self, Option.getD_none, Option.getD_some, Option.isSome_none, Option.isSome_some, Option.isNone_none, Option.isNone_some, Bool.or_false, Bool.false_or, Bool.and_false, Bool.false_and, Int.le_refl, Nat.le_refl, List.length_map, List.getElem?_map, Int.natCast_add, Int.natCast_one, List.append_assoc, List.length_append, Nat.add_assoc, and_self, and_true, true_and, and_false, false_and, or_true, true_or, or_false, false_or, not_true_eq_false, not_false_eq_true, Int.cast_ofNat_Int, Int.natCast_nonneg, Int.toNat_natCast, ne_eq, not_true_eq_false, not_false_eq_true, Nat.reduceBEq, Nat.reduceAdd, Nat.reduceSub, Nat.reduceMul, Nat.reduceLeDiff, Nat.reduceEqDiff, Nat.reduceLT, Int.reduceNeg, Int.reduceAdd, Int.reduceSub, Int.reduceMul, Int.reduceLE, Int.reduceLT, Int.reduceEq, Int.reduceToNat, reduceCtorEq, IntWalk.i64_in, hh, hhq, List.all_append, List.length_set, *]))
    all_goals
      generalize hL : LoopS _ _ _ _ _ _ _ _ _ = Y
      obtain ⟨cont', st', p', rfl, h2, h3, h4, h5⟩ := ih K hL (by omega) (by omega) (by simp) (by simp; omega) (hc.snoc ⟨_, _, by first | exact ⟨hv3, hv4⟩ | assumption, rfl⟩) (by omega) (by omega)
      exact ⟨cont', st', p', rfl, h2, by simp at h3; omega, by omega, by omega⟩

-- find156
theorem ex_bagV {d : Nat} {hp t : Heap} {c c2 : Bool} {bs : List UInt8} {p : Int} {cs : List Col} {X : Option (V × Heap)} (hx : callS (runD tab noExt (d + 5)) (hp ++ .box [.sl c 1 (cellsOfBytes bs), .int .i64 (p)] :: t) 156 [.ptr hp.length 0 0 0, .sl c2 2 (cs.map Col.cells), .int .i64 0] false = X)
    (hp0 : 0 ≤ p) (hq : p ≤ 1099400000000) (hb : bs.length ≤ 2000) (hhp : plainH hp = true) (ht : plainH t = true) (hok : colsOk cs = true) :
    ∃ (rs : List Row) (p' : Int), X = some (.sl false 1 (rs.map Row.cells), hp ++ .box [.sl c 1 (cellsOfBytes bs), .int .i64 (p')] :: t) ∧ p ≤ p' ∧ p' ≤ p + 1000 ∧ BagPostV cs rs := by
  subst hx
  have hh : ∀ n, t.all (hiB n) = true := fun n => plainH_hi ht n
  have hhq : ∀ n, hp.all (hiB n) = true := fun n => plainH_hi hhp n
  rw [callS_eq, runD_eq find156 _ _ _ (by simp)]
  simp -implicitDefEqProofs (disch := omega) only [go_sem, Nat.sub_zero, List.drop_zero, eq_self, Option.getD_none, Option.getD_some, Option.isSome_none, Option.isSome_some, Option.isNone_none, Option.isNone_some, Bool.or_false, Bool.false_or, Bool.and_false, Bool.false_and, Int.le_refl, Nat.le_refl, List.length_map, List.getElem?_map, Int.natCast_add, Int.natCast_one, List.append_assoc, List.length_append, Nat.add_assoc, and_self, and_true, true_and, and_false, false_and, or_true, true_or, or_false, false_or, not_true_eq_false, not_false_eq_true, Int.cast_ofNat_Int, Int.natCast_nonneg, Int.toNat_natCast, ne_eq, not_true_eq_false, not_false_eq_true, Nat.reduceBEq, Nat.reduceAdd, Nat.reduceSub, Nat.reduceMul, Nat.reduceLeDiff, Nat.reduceEqDiff, Nat.reduceLT, Int.reduceNeg, Int.reduceAdd, Int.reduceSub, Int.reduceMul, Int.reduceLE, Int.reduceLT, Int.reduceEq, Int.reduceToNat, reduceCtorEq, hh, hhq, List.all_append]
  generalize hx : callS (runD tab noExt _) _ 104 _ _ = X
  obtain ⟨m, rfl, hm1, hm2⟩ := ex_pick hx (by omega) (by omega) hb hhp (by simp only [ht, plainH_nil, plainH_cons, plainH_append, plainB, List.all_cons, List.all_nil, Bool.and_self, Bool.and_true])
  clear hx
  simp -implicitDefEqProofs (disch := omega) only [go_sem, Nat.sub_zero, List.drop_zero, eq_self, Option.getD_none, Option.getD_some, Option.isSome_none, Option.isSome_some, Option.isNone_none, Option.isNone_some, Bool.or_false, Bool.false_or, Bool.and_false, Bool.false_and, Int.le_refl, Nat.le_refl, List.length_map, List.getElem?_map, Int.natCast_add, Int.natCast_one, List.append_assoc, List.length_append, Nat.add_assoc, and_self, and_true, true_and, and_false, false_and, or_true, true_or, or_false, false_or, not_true_eq_false, not_false_eq_true, Int.cast_ofNat_Int, Int.natCast_nonneg, Int.toNat_natCast, ne_eq, not_true_eq_false, not_false_eq_true, Nat.reduceBEq, Nat.reduceAdd, Nat.reduceSub, Nat.reduceMul, Nat.reduceLeDiff, Nat.reduceEqDiff, Nat.reduceLT, Int.reduceNeg, Int.reduceAdd, Int.reduceSub, Int.reduceMul, Int.reduceLE, Int.reduceLT, Int.reduceEq, Int.reduceToNat, reduceCtorEq, IntWalk.i64_in, hh, hhq, List.all_append]
  generalize hx : LoopS _ _ _ _ _ _ _ _ _ = Y
  obtain ⟨cont, st, p1, rfl, h1, h2, h3, h4⟩ := loop_bagV hb hhp ht hok m.toNat _ hx (by omega) (by omega) rfl (by simp; omega) AllP.nil (by omega) (by omega)
  clear hx
  simp only [List.length_nil, Nat.zero_add] at h2
  obtain ⟨rs, rfl, h5⟩ := rows_ofV h1
  simp -implicitDefEqProofs (disch := omega) only [go_sem, Nat.sub_zero, List.drop_zero, eq_self, Option.getD_none, Option.getD_some, Option.isSome_none, Option.isSome_some, Option.isNone_none, Option.isNone_some, Bool.or_false, Bool.false_or, Bool.and_false, Bool.false_and, Int.le_refl, Nat.le_refl, List.length_map, List.getElem?_map, Int.natCast_add, Int.natCast_one, List.append_assoc, List.length_append, Nat.add_assoc, and_self, and_true, true_and, and_false, false_and, or_true, true_or, or_false, false_or, not_true_eq_false, not_false_eq_true, Int.cast_ofNat_Int, Int.natCast_nonneg, Int.toNat_natCast, ne_eq, not_true_eq_false, not_false_eq_true, Nat.reduceBEq, Nat.reduceAdd, Nat.reduceSub, Nat.reduceMul, Nat.reduceLeDiff, Nat.reduceEqDiff, Nat.reduceLT, Int.reduceNeg, Int.reduceAdd, Int.reduceSub, Int.reduceMul, Int.reduceLE, Int.reduceLT, Int.reduceEq, Int.reduceToNat, reduceCtorEq, hh, hhq, List.all_append, take_map_len]
  exact ⟨rs, p1, rfl, by omega, by omega, by simp at h2; omega, h5⟩
theorem exk_bagV {d : Nat} {hp t : Heap} {c c2 : Bool} {bs : List UInt8} {p : Int} {cs : List Col} {X : Option (V × Heap)} (hx : callS (runD tab noExt (d + 5)) (hp ++ .box [.sl c 1 (cellsOfBytes bs), .int .i64 (p)] :: t) 156 [.ptr hp.length 0 0 0, .sl c2 2 (cs.map Col.cells), .int .i64 0] true = X)
    (hp0 : 0 ≤ p) (hq : p ≤ 1099400000000) (hb : bs.length ≤ 2000) (hhp : plainH hp = true) (ht : plainH t = true) (hok : colsOk cs = true) :
    ∃ (rs : List Row) (p' : Int), X = some (.ref (hp.length + (t.length + 1)) 0 0 rs.length false, hp ++ .box [.sl c 1 (cellsOfBytes bs), .int .i64 (p')] :: (t ++ [.rows 0 1 (rs.map Row.cells)])) ∧ p ≤ p' ∧ p' ≤ p + 1000 ∧ BagPostV cs rs := by
  subst hx
  have hh : ∀ n, t.all (hiB n) = true := fun n => plainH_hi ht n
  have hhq : ∀ n, hp.all (hiB n) = true := fun n => plainH_hi hhp n
  rw [callS_eq, runD_eq find156 _ _ _ (by simp)]
  simp -implicitDefEqProofs (disch := omega) only [go_sem, Nat.sub_zero, List.drop_zero, eq_self, Option.getD_none, Option.getD_some, Option.isSome_none, Option.isSome_some, Option.isNone_none, Option.isNone_some, Bool.or_false, Bool.false_or, Bool.and_false, Bool.false_and, Int.le_refl, Nat.le_refl, List.length_map, List.getElem?_map, Int.natCast_add, Int.natCast_one, List.append_assoc, List.length_append, Nat.add_assoc, and_self, and_true, true_and, and_false, false_and, or_true, true_or, or_false, false_or, not_true_eq_false, not_false_eq_true, Int.cast_ofNat_Int, Int.natCast_nonneg, Int.toNat_natCast, ne_eq, not_true_eq_false, not_false_eq_true, Nat.reduceBEq, Nat.reduceAdd, Nat.reduceSub, Nat.reduceMul, Nat.reduceLeDiff, Nat.reduceEqDiff, Nat.reduceLT, Int.reduceNeg, Int.reduceAdd, Int.reduceSub, Int.reduceMul, Int.reduceLE, Int.reduceLT, Int.reduceEq, Int.reduceToNat, reduceCtorEq, hh, hhq, List.all_append]
  generalize hx : callS (runD tab noExt _) _ 104 _ _ = X
  obtain ⟨m, rfl, hm1, hm2⟩ := ex_pick hx (by omega) (by omega) hb hhp (by simp only [ht, plainH_nil, plainH_cons, plainH_append, plainB, List.all_cons, List.all_nil, Bool.and_self, Bool.and_true])
  clear hx
  simp -implicitDefEqProofs (disch := omega) only [go_sem, Nat.sub_zero, List.drop_zero, eq_self, Option.getD_none, Option.getD_some, Option.isSome_none, Option.isSome_some, Option.isNone_none, Option.isNone_some, Bool.or_false, Bool.false_or, Bool.and_false, Bool.false_and, Int.le_refl, Nat.le_refl, List.length_map, List.getElem?_map, Int.natCast_add, Int.natCast_one, List.append_assoc, List.length_append, Nat.add_assoc, and_self, and_true, true_and, and_false, false_and, or_true, true_or, or_false, false_or, not_true_eq_false, not_false_eq_true, Int.cast_ofNat_Int, Int.natCast_nonneg, Int.toNat_natCast, ne_eq, not_true_eq_false, not_false_eq_true, Nat.reduceBEq, Nat.reduceAdd, Nat.reduceSub, Nat.reduceMul, Nat.reduceLeDiff, Nat.reduceEqDiff, Nat.reduceLT, Int.reduceNeg, Int.reduceAdd, Int.reduceSub, Int.reduceMul, Int.reduceLE, Int.reduceLT, Int.reduceEq, Int.reduceToNat, reduceCtorEq, IntWalk.i64_in, hh, hhq, List.all_append]
  generalize hx : LoopS _ _ _ _ _ _ _ _ _ = Y
  obtain ⟨cont, st, p1, rfl, h1, h2, h3, h4⟩ := loop_bagV hb hhp ht hok m.toNat _ hx (by omega) (by omega) rfl (by simp; omega) AllP.nil (by omega) (by omega)
  clear hx
  simp only [List.length_nil, Nat.zero_add] at h2
  obtain ⟨rs, rfl, h5⟩ := rows_ofV h1
  simp -implicitDefEqProofs (disch := omega) only [go_sem, Nat.sub_zero, List.drop_zero, eq_self, Option.getD_none, Option.getD_some, Option.isSome_none, Option.isSome_some, Option.isNone_none, Option.isNone_some, Bool.or_false, Bool.false_or, Bool.and_false, Bool.false_and, Int.le_refl, Nat.le_refl, List.length_map, List.getElem?_map, Int.natCast_add, Int.natCast_one, List.append_assoc, List.length_append, Nat.add_assoc, and_self, and_true, true_and, and_false, false_and, or_true, true_or, or_false, false_or, not_true_eq_false, not_false_eq_true, Int.cast_ofNat_Int, Int.natCast_nonneg, Int.toNat_natCast, ne_eq, not_true_eq_false, not_false_eq_true, Nat.reduceBEq, Nat.reduceAdd, Nat.reduceSub, Nat.reduceMul, Nat.reduceLeDiff, Nat.reduceEqDiff, Nat.reduceLT, Int.reduceNeg, Int.reduceAdd, Int.reduceSub, Int.reduceMul, Int.reduceLE, Int.reduceLT, Int.reduceEq, Int.reduceToNat, reduceCtorEq, hh, hhq, List.all_append, take_map_len]
  exact ⟨rs, p1, rfl, by omega, by omega, by simp at h2; omega, h5⟩
end Go.Proofs.Ytnnjpiepoeknnaa.PE
