/- Texts of this claim, one behind the other: Pfc, Pfd, Pru, Pl4, Pl6, Pb8, Pfe, Pff, Pfg, Pfh, Pr0, Pr5, Prb, Pfi, Pfk, Pfl, Pfm, Pg0, Pr1, Pg1, Pg2, Pg3. -/
import Derived.Test.YteaojpfofifmnaaG0
import Derived.Test.YteaojpfofifmnaaPeX
import Derived.Deep.Slices
import Derived.ChangeArms
/- Bodies and entries read: the reference. -/
set_option linter.unusedSimpArgs false
set_option linter.unusedVariables false
set_option maxHeartbeats 8000000
set_option maxRecDepth 20000
namespace Go.Proofs.Yteaojpfofifmnaa.PE
open Go.RowKit

-- find91
theorem run_readS (d : Nat) (c : Bool) (b : List UInt8) (hb : b.length < 1099511627776) : match readS b with
    | some e => retP (runD tab noExt (d + 7)) 91 [.sl c 1 (cellsOfBytes b)] = some [.agg e.cells, .bool true]
    | none => ∃ q1 q2, retP (runD tab noExt (d + 7)) 91 [.sl c 1 (cellsOfBytes b)] = some [.agg [q1, q2], .bool false] := by
  match b, hb with
  | [], _ =>
    refine ⟨.int .i64 0, .sl true 3 [], ?_⟩
    rw [retP, runD_eq find91 _ _ _ (by simp)]
    simp -implicitDefEqProofs (disch := omega) only [go_sem, Nat.reduceBEq, Nat.reduceAdd, Nat.reduceSub, Nat.reduceMul, Nat.reduceLeDiff, Nat.reduceEqDiff, Nat.reduceLT, Int.reduceNeg, Int.reduceAdd, Int.reduceSub, Int.reduceMul, Int.reduceLE, Int.reduceLT, Int.reduceEq, Int.reduceToNat, reduceCtorEq, cob_nil]
  | [x], _ =>
    refine ⟨.int .i64 0, .sl true 3 [], ?_⟩
    rw [retP, runD_eq find91 _ _ _ (by simp)]
    simp -implicitDefEqProofs (disch := omega) only [go_sem, Nat.reduceBEq, Nat.reduceAdd, Nat.reduceSub, Nat.reduceMul, Nat.reduceLeDiff, Nat.reduceEqDiff, Nat.reduceLT, Int.reduceNeg, Int.reduceAdd, Int.reduceSub, Int.reduceMul, Int.reduceLE, Int.reduceLT, Int.reduceEq, Int.reduceToNat, reduceCtorEq, cob_cons, cob_nil]
  | t :: m :: rest, hb =>
    have hm := m.toNat_lt
    have ht := t.toNat_lt
    have hl := loop_rdS d c (t :: m :: rest) hb t.toNat m.toNat (by omega) rfl m.toNat 0 2 [] (by omega) (by simp) rfl 1099511627775 (by omega)
    simp only [List.drop_succ_cons, List.drop_zero, List.map_nil, List.nil_append, Int.natCast_zero, wHeap, wPtr, wTail, cob_cons] at hl
    have l2 : ((rest.length : Int) + 2 < 2) = False := eq_false (by omega)
    have er : readS (t :: m :: rest) = match wsS m.toNat rest with | none => none | some (ws, k) => if k = rest.length ∧ logOk [⟨t.toNat, ws.isEmpty, ws⟩] = true then some ⟨t.toNat, ws.isEmpty, ws⟩ else none := by simp only [readS]; try (cases wsS m.toNat rest <;> rfl)
    rw [er]
    clear er
    revert hl
    generalize hR : wsS m.toNat rest = R
    intro hl
    cases R with
    | none =>
      obtain ⟨p', ws', hl⟩ := hl
      try simp -implicitDefEqProofs only [go_sem, Nat.reduceBEq, Nat.reduceAdd, Nat.reduceSub, Nat.reduceMul, Nat.reduceLeDiff, Nat.reduceEqDiff, Nat.reduceLT, Int.reduceNeg, Int.reduceAdd, Int.reduceSub, Int.reduceMul, Int.reduceLE, Int.reduceLT, Int.reduceEq, Int.reduceToNat, reduceCtorEq] at hl
      refine ⟨.int .i64 0, .sl true 3 [], ?_⟩
      rw [retP, runD_eq find91 _ _ _ (by simp)]
      simp -implicitDefEqProofs (disch := omega) only [go_sem, Nat.reduceBEq, Nat.reduceAdd, Nat.reduceSub, Nat.reduceMul, Nat.reduceLeDiff, Nat.reduceEqDiff, Nat.reduceLT, Int.reduceNeg, Int.reduceAdd, Int.reduceSub, Int.reduceMul, Int.reduceLE, Int.reduceLT, Int.reduceEq, Int.reduceToNat, reduceCtorEq, l2, cob_cons, cob_len, IntWalk.i64_in]
      rw [hl]
      cases ws' <;> simp -implicitDefEqProofs (disch := omega) only [go_sem, Nat.reduceBEq, Nat.reduceAdd, Nat.reduceSub, Nat.reduceMul, Nat.reduceLeDiff, Nat.reduceEqDiff, Nat.reduceLT, Int.reduceNeg, Int.reduceAdd, Int.reduceSub, Int.reduceMul, Int.reduceLE, Int.reduceLT, Int.reduceEq, Int.reduceToNat, reduceCtorEq, wHeap, wPtr, wTail]
    | some q =>
      obtain ⟨ws, k⟩ := q
      have hlim := wsI_lim (by omega) (wsS_wsI _ _ hR) t.toNat ws.isEmpty
      obtain ⟨_, e2, e3⟩ := hlim.fine
      have hv1 := run_logS (d + 1) true [⟨t.toNat, ws.isEmpty, ws⟩] e3 e2
      simp only [List.map_cons, List.map_nil, Ent.cells, Ent.v] at hv1
      try simp -implicitDefEqProofs only [go_sem, Nat.reduceBEq, Nat.reduceAdd, Nat.reduceSub, Nat.reduceMul, Nat.reduceLeDiff, Nat.reduceEqDiff, Nat.reduceLT, Int.reduceNeg, Int.reduceAdd, Int.reduceSub, Int.reduceMul, Int.reduceLE, Int.reduceLT, Int.reduceEq, Int.reduceToNat, reduceCtorEq] at hl
      by_cases hk : k = rest.length
      · have g1 : (2 : Int) + k = rest.length + 2 := by omega
        cases ho : logOk [⟨t.toNat, ws.isEmpty, ws⟩]
        · rw [ho] at hv1
          simp only
          rw [if_neg (fun h => by rw [ho] at h; cases h.2)]
          refine ⟨.int .i64 t.toNat, .sl ws.isEmpty 3 (ws.map Wr.cells), ?_⟩
          rw [retP, runD_eq find91 _ _ _ (by simp)]
          simp -implicitDefEqProofs (disch := omega) only [go_sem, Nat.reduceBEq, Nat.reduceAdd, Nat.reduceSub, Nat.reduceMul, Nat.reduceLeDiff, Nat.reduceEqDiff, Nat.reduceLT, Int.reduceNeg, Int.reduceAdd, Int.reduceSub, Int.reduceMul, Int.reduceLE, Int.reduceLT, Int.reduceEq, Int.reduceToNat, reduceCtorEq, l2, cob_cons, cob_len, IntWalk.i64_in]
          rw [hl]
          cases ws <;> (try simp only [List.isEmpty_nil, List.isEmpty_cons, List.map_nil, List.map_cons] at hv1) <;> simp -implicitDefEqProofs (disch := omega) only [go_sem, Nat.reduceBEq, Nat.reduceAdd, Nat.reduceSub, Nat.reduceMul, Nat.reduceLeDiff, Nat.reduceEqDiff, Nat.reduceLT, Int.reduceNeg, Int.reduceAdd, Int.reduceSub, Int.reduceMul, Int.reduceLE, Int.reduceLT, Int.reduceEq, Int.reduceToNat, reduceCtorEq, evC_draw, evD91x1, E91x1, wHeap, wPtr, wTail, List.isEmpty_nil, List.isEmpty_cons, g1, hv1, cob_cons, cob_len, elemsOf, elemOf, frzs, frz1, refs, refC, refsV, List.set_cons_zero, List.set_cons_succ, List.take_length]
        · rw [ho] at hv1
          simp only
          rw [if_pos ⟨hk, ho⟩]
          simp only
          rw [retP, runD_eq find91 _ _ _ (by simp)]
          simp -implicitDefEqProofs (disch := omega) only [go_sem, Nat.reduceBEq, Nat.reduceAdd, Nat.reduceSub, Nat.reduceMul, Nat.reduceLeDiff, Nat.reduceEqDiff, Nat.reduceLT, Int.reduceNeg, Int.reduceAdd, Int.reduceSub, Int.reduceMul, Int.reduceLE, Int.reduceLT, Int.reduceEq, Int.reduceToNat, reduceCtorEq, l2, cob_cons, cob_len, IntWalk.i64_in]
          rw [hl]
          cases ws <;> (try simp only [List.isEmpty_nil, List.isEmpty_cons, List.map_nil, List.map_cons] at hv1) <;> simp -implicitDefEqProofs (disch := omega) only [go_sem, Nat.reduceBEq, Nat.reduceAdd, Nat.reduceSub, Nat.reduceMul, Nat.reduceLeDiff, Nat.reduceEqDiff, Nat.reduceLT, Int.reduceNeg, Int.reduceAdd, Int.reduceSub, Int.reduceMul, Int.reduceLE, Int.reduceLT, Int.reduceEq, Int.reduceToNat, reduceCtorEq, evC_draw, evD91x1, E91x1, wHeap, wPtr, wTail, List.isEmpty_nil, List.isEmpty_cons, g1, hv1, cob_cons, cob_len, elemsOf, elemOf, frzs, frz1, refs, refC, refsV, List.set_cons_zero, List.set_cons_succ, List.take_length, Ent.cells, Ent.v]
      · have g1 : ((2 : Int) + k = rest.length + 2) = False := eq_false (by omega)
        simp only
        rw [if_neg (fun h => hk h.1)]
        refine ⟨.int .i64 t.toNat, .sl ws.isEmpty 3 (ws.map Wr.cells), ?_⟩
        rw [retP, runD_eq find91 _ _ _ (by simp)]
        simp -implicitDefEqProofs (disch := omega) only [go_sem, Nat.reduceBEq, Nat.reduceAdd, Nat.reduceSub, Nat.reduceMul, Nat.reduceLeDiff, Nat.reduceEqDiff, Nat.reduceLT, Int.reduceNeg, Int.reduceAdd, Int.reduceSub, Int.reduceMul, Int.reduceLE, Int.reduceLT, Int.reduceEq, Int.reduceToNat, reduceCtorEq, l2, cob_cons, cob_len, IntWalk.i64_in]
        rw [hl]
        cases ws <;> (try simp only [List.isEmpty_nil, List.isEmpty_cons, List.map_nil, List.map_cons] at hv1) <;> simp -implicitDefEqProofs (disch := omega) only [go_sem, Nat.reduceBEq, Nat.reduceAdd, Nat.reduceSub, Nat.reduceMul, Nat.reduceLeDiff, Nat.reduceEqDiff, Nat.reduceLT, Int.reduceNeg, Int.reduceAdd, Int.reduceSub, Int.reduceMul, Int.reduceLE, Int.reduceLT, Int.reduceEq, Int.reduceToNat, reduceCtorEq, evC_draw, evD91x1, E91x1, wHeap, wPtr, wTail, List.isEmpty_nil, List.isEmpty_cons, g1, cob_cons, cob_len, elemsOf, elemOf, frzs, frz1, refs, refC, refsV, List.set_cons_zero, List.set_cons_succ, List.take_length]
end Go.Proofs.Yteaojpfofifmnaa.PE
/- Entries read: the reference. -/
set_option linter.unusedSimpArgs false
set_option linter.unusedVariables false
set_option maxHeartbeats 8000000
set_option maxRecDepth 20000
namespace Go.Proofs.Yteaojpfofifmnaa.PE
open Go.RowKit

-- find53
theorem run_eFromS (d : Nat) (c : Bool) (b : List UInt8) (hb : b.length < 1099511627776) : retP (runD tab noExt (d + 8)) 53 [.sl c 1 (cellsOfBytes b)] = some [.agg (eFrom b).1.cells, .int .i64 (eFrom b).2] := by
  match b, hb with
  | [], _ =>
    rw [retP, runD_eq find53 _ _ _ (by simp)]
    simp -implicitDefEqProofs (disch := omega) only [go_sem, Nat.reduceBEq, Nat.reduceAdd, Nat.reduceSub, Nat.reduceMul, Nat.reduceLeDiff, Nat.reduceEqDiff, Nat.reduceLT, Int.reduceNeg, Int.reduceAdd, Int.reduceSub, Int.reduceMul, Int.reduceLE, Int.reduceLT, Int.reduceEq, Int.reduceToNat, reduceCtorEq, cob_nil, eFrom, unF, entZ, Ent.cells, Ent.v]
  | [x], _ =>
    rw [retP, runD_eq find53 _ _ _ (by simp)]
    simp -implicitDefEqProofs (disch := omega) only [go_sem, Nat.reduceBEq, Nat.reduceAdd, Nat.reduceSub, Nat.reduceMul, Nat.reduceLeDiff, Nat.reduceEqDiff, Nat.reduceLT, Int.reduceNeg, Int.reduceAdd, Int.reduceSub, Int.reduceMul, Int.reduceLE, Int.reduceLT, Int.reduceEq, Int.reduceToNat, reduceCtorEq, cob_cons, cob_nil, eFrom, unF, entZ, Ent.cells, Ent.v]
  | x :: y :: r, hb =>
    have hx := x.toNat_lt
    have hy := y.toNat_lt
    have hn : (x.toNat : Int) * 256 + y.toNat = (256 * x.toNat + y.toNat : Nat) := by omega
    by_cases h3 : (r.length : Int) + 2 < 3
    · rw [eFrom, unF, if_pos (by omega)]
      rw [retP, runD_eq find53 _ _ _ (by simp)]
      simp -implicitDefEqProofs (disch := omega) only [go_sem, Nat.reduceBEq, Nat.reduceAdd, Nat.reduceSub, Nat.reduceMul, Nat.reduceLeDiff, Nat.reduceEqDiff, Nat.reduceLT, Int.reduceNeg, Int.reduceAdd, Int.reduceSub, Int.reduceMul, Int.reduceLE, Int.reduceLT, Int.reduceEq, Int.reduceToNat, reduceCtorEq, cob_cons, cob_len, h3, entZ, Ent.cells, Ent.v]
    · have h3' := eq_false h3
      generalize hN : 256 * x.toNat + y.toNat = n at hn
      have hn6 : n < 65536 := by omega
      by_cases h4 : r.length < n + 1
      · have h4' : (r.length : Int) + 2 < (n : Int) + 3 := by omega
        rw [eFrom, unF, hN, if_pos h4]
        rw [retP, runD_eq find53 _ _ _ (by simp)]
        simp -implicitDefEqProofs (disch := omega) only [go_sem, Nat.reduceBEq, Nat.reduceAdd, Nat.reduceSub, Nat.reduceMul, Nat.reduceLeDiff, Nat.reduceEqDiff, Nat.reduceLT, Int.reduceNeg, Int.reduceAdd, Int.reduceSub, Int.reduceMul, Int.reduceLE, Int.reduceLT, Int.reduceEq, Int.reduceToNat, reduceCtorEq, evC_draw, evD53x0, E53x0, evC_draw, evD53x1, E53x1, cob_cons, cob_len, IntWalk.i64_in, hn, h3', h4', entZ, Ent.cells, Ent.v]
      · have h4' : ((r.length : Int) + 2 < (n : Int) + 3) = False := eq_false (by omega)
        have hs : ∀ c, retP (runD tab noExt (d + 7)) 65 [.sl c 1 (cellsOfBytes (r.take n))] = some [.int .u8 (sumC (r.take n))] := fun c => run_sumSC (d + 6) c (r.take n) (by rw [List.length_take]; omega)
        have hrd : ∀ c, match readS (r.take n) with
          | some e => retP (runD tab noExt (d + 7)) 91 [.sl c 1 (cellsOfBytes (r.take n))] = some [.agg e.cells, .bool true]
          | none => ∃ q1 q2, retP (runD tab noExt (d + 7)) 91 [.sl c 1 (cellsOfBytes (r.take n))] = some [.agg [q1, q2], .bool false] := fun c => run_readS d c (r.take n) (by rw [List.length_take]; omega)
        have hx1 : (cellsOfBytes r)[n]? = some [.int .u8 (r.getD n 0).toNat] := by
          rw [List.getD_eq_getElem?_getD, List.getElem?_eq_getElem (show n < r.length by omega)]
          exact ofBytes_at (List.getElem?_eq_getElem (by omega))
        have f1 : (0 ≤ (n : Int) + 2 ∧ (n : Int) + 2 ≤ (r.length : Int) + 2) = True := eq_true (by omega)
        have f2 : ((2 : Int) ≤ (n : Int) + 2) = True := eq_true (by omega)
        have f3 : ((n : Int) + 2).toNat - 2 = n := by omega
        have f4 : ((n : Int) + 2).toNat = n + 2 := by omega
        have f5 : (0 ≤ (n : Int) + 2 ∧ (n : Int) + 2 < (r.length : Int) + 2) = True := eq_true (by omega)
        have f6 : ((n : Int) + 2 ≤ (r.length : Int) + 2) = True := eq_true (by omega)
        have f7 : ((n : Int) + 2 < (r.length : Int) + 2) = True := eq_true (by omega)
        have f8 : (0 ≤ (n : Int) + 2) = True := eq_true (by omega)
        have e : unF (x :: y :: r) = if sumC (r.take n) = ((r.getD n 0).toNat : Int) then some (r.take n, n + 3) else none := by rw [unF, hN, if_neg h4]
        rw [eFrom, e]
        by_cases hq : sumC (r.take n) = ((r.getD n 0).toNat : Int)
        · rw [if_pos hq]
          simp only
          cases hr : readS (r.take n) with
          | none =>
            rw [hr] at hrd
            obtain ⟨q1, q2, hd⟩ := hrd (c && decide ((n : Int) + 2 = r.length + 2))
            simp only
            rw [retP, runD_eq find53 _ _ _ (by simp)]
            simp -implicitDefEqProofs (disch := omega) only [go_sem, Nat.reduceBEq, Nat.reduceAdd, Nat.reduceSub, Nat.reduceMul, Nat.reduceLeDiff, Nat.reduceEqDiff, Nat.reduceLT, Int.reduceNeg, Int.reduceAdd, Int.reduceSub, Int.reduceMul, Int.reduceLE, Int.reduceLT, Int.reduceEq, Int.reduceToNat, reduceCtorEq, evC_draw, evD53x0, E53x0, evC_draw, evD53x1, E53x1, cob_cons, cob_len, cob_take, cob_drop, IntWalk.i64_in, hn, h3', h4', hs, hx1, f1, f2, f3, f4, f5, f6, f7, f8, Nat.add_sub_cancel, hq, hd, entZ, Ent.cells, Ent.v]
          | some en =>
            rw [hr] at hrd
            have hd := hrd (c && decide ((n : Int) + 2 = r.length + 2))
            simp only [Ent.cells, Ent.v] at hd
            simp only
            rw [retP, runD_eq find53 _ _ _ (by simp)]
            simp -implicitDefEqProofs (disch := omega) only [go_sem, Nat.reduceBEq, Nat.reduceAdd, Nat.reduceSub, Nat.reduceMul, Nat.reduceLeDiff, Nat.reduceEqDiff, Nat.reduceLT, Int.reduceNeg, Int.reduceAdd, Int.reduceSub, Int.reduceMul, Int.reduceLE, Int.reduceLT, Int.reduceEq, Int.reduceToNat, reduceCtorEq, evC_draw, evD53x0, E53x0, evC_draw, evD53x1, E53x1, cob_cons, cob_len, cob_take, cob_drop, IntWalk.i64_in, hn, h3', h4', hs, hx1, f1, f2, f3, f4, f5, f6, f7, f8, Nat.add_sub_cancel, hq, hd, entZ, Ent.cells, Ent.v]
        · have hq' : (((r.getD n 0).toNat : Int) = sumC (r.take n)) = False := eq_false (fun h => hq h.symm)
          rw [if_neg hq, retP, runD_eq find53 _ _ _ (by simp)]
          simp -implicitDefEqProofs (disch := omega) only [go_sem, Nat.reduceBEq, Nat.reduceAdd, Nat.reduceSub, Nat.reduceMul, Nat.reduceLeDiff, Nat.reduceEqDiff, Nat.reduceLT, Int.reduceNeg, Int.reduceAdd, Int.reduceSub, Int.reduceMul, Int.reduceLE, Int.reduceLT, Int.reduceEq, Int.reduceToNat, reduceCtorEq, evC_draw, evD53x0, E53x0, evC_draw, evD53x1, E53x1, cob_cons, cob_len, cob_take, cob_drop, IntWalk.i64_in, hn, h3', h4', hs, hx1, f1, f2, f3, f4, f5, f6, f7, f8, Nat.add_sub_cancel, hq', entZ, Ent.cells, Ent.v]
end Go.Proofs.Yteaojpfofifmnaa.PE
/- Results that are memory of one's own, told as values. -/
set_option linter.unusedSimpArgs false
set_option linter.unusedVariables false
namespace Go.Proofs.Yteaojpfofifmnaa.PE
open Go.RowKit

theorem retP_own {run : Run} {f : Nat} {args : List V} {v : V} {hc : Heap} {fs : List Fd} {u : U} {ids : List Nat} (hr : run f args [] = some ([v], hc)) (ho : OwnF hc (.sub fs) v u ids) (hd : dep (.sub fs) ≤ 6) : ∃ q, retP run f args = some [q] ∧ PurF (.sub fs) q u := by
  obtain ⟨q, e1, e2⟩ := OwnF_pure (.sub fs) 6 hd ho
  have e3 := pureDA_of ho e1
  refine ⟨q, ?_, e2⟩
  unfold retP
  rw [hr, PureR_some]
  have hA : pureAs hc [v] = none ∨ pureAs hc [v] = some [q] := by
    simp only [OwnF] at ho
    obtain ⟨xs, rfl, ⟨c, rfl, rfl, _⟩ | ⟨id, st, clip, cont, r, rfl, e, _, _⟩⟩ := ho
    · right
      simp only [pureD, Option.some.injEq] at e1
      subst e1
      rfl
    · simp only [pureAs, pureA, pureC, e, blkOf]
      cases hdeep : fs.any Fd.deep
      · right
        simp only [pureD, e, blkOf, hdeep, Bool.false_eq_true, if_false, if_true, Option.some.injEq] at e1
        subst e1
        simp
      · left
        simp
  rcases hA with hA | hA
  · rw [hA, OrD_none]
    simp only [pureDAs, mapO, e3]
  · rw [hA, OrD_some]
theorem retP_ownI {run : Run} {f : Nat} {args : List V} {v : V} {hc : Heap} {fs : List Fd} {u : U} {ids : List Nat} {k : IntKind} {n : Int} (hr : run f args [] = some ([v, .int k n], hc)) (ho : OwnF hc (.sub fs) v u ids) (hd : dep (.sub fs) ≤ 6) : ∃ q, retP run f args = some [q, .int k n] ∧ PurF (.sub fs) q u := by
  obtain ⟨q, e1, e2⟩ := OwnF_pure (.sub fs) 6 hd ho
  have e3 := pureDA_of ho e1
  refine ⟨q, ?_, e2⟩
  unfold retP
  rw [hr, PureR_some]
  have hA : pureAs hc [v, .int k n] = none ∨ pureAs hc [v, .int k n] = some [q, .int k n] := by
    simp only [OwnF] at ho
    obtain ⟨xs, rfl, ⟨c, rfl, rfl, _⟩ | ⟨id, st, clip, cont, r, rfl, e, _, _⟩⟩ := ho
    · right
      simp only [pureD, Option.some.injEq] at e1
      subst e1
      rfl
    · simp only [pureAs, pureA, pureC, e, blkOf]
      cases hdeep : fs.any Fd.deep
      · right
        simp only [pureD, e, blkOf, hdeep, Bool.false_eq_true, if_false, if_true, Option.some.injEq] at e1
        subst e1
        simp
      · left
        simp
  rcases hA with hA | hA
  · rw [hA, OrD_none]
    simp only [pureDAs, mapO, e3, pureDA_int]
  · rw [hA, OrD_some]
end Go.Proofs.Yteaojpfofifmnaa.PE
/- What a follower has of a log; a backup and the log behind it. -/
set_option linter.unusedSimpArgs false
set_option linter.unusedVariables false
set_option maxHeartbeats 4000000
namespace Go.Proofs.Yteaojpfofifmnaa.PE
open Go.RowKit

def icell (x : Int) : List V := [.int .i64 x]
def icU (x : Int) : List U := [.int x]
def fol1 (m : Nat) (b : Nat) (x : Int) : Nat := if x = b ∧ (b : Int) < m then b + 1 else b
def fol (m : Nat) (xs : List Int) : Nat := xs.foldl (fol1 m) 0
end Go.Proofs.Yteaojpfofifmnaa.PE
/- A backup and the log behind it. -/
set_option linter.unusedSimpArgs false
set_option linter.unusedVariables false
set_option maxHeartbeats 4000000
namespace Go.Proofs.Yteaojpfofifmnaa.PE
open Go.RowKit

def behStep (t : Int) (b : List Ent) (x : Ent) : List Ent := if t < x.time then b ++ [x] else b
def beh (k : Ent) (l : List Ent) : List Ent := l.foldl (behStep k.time) [k]
theorem prevs_pw : ∀ (l : List Ent) (o : Option Ent), (prevsG o l).all entOk = true ↔ (∀ e ∈ l, e.one = true) ∧ (∀ q, o = some q → ∀ e ∈ l, q.time < e.time) ∧ l.Pairwise (fun a b => a.time < b.time)
  | [], o => by simp [prevsG]
  | v :: r, o => by
    have ih := prevs_pw r (some v)
    simp only [prevsG, List.all_cons, Bool.and_eq_true, entOk, ih, List.pairwise_cons, List.mem_cons, forall_eq_or_imp, Option.some.injEq, forall_eq']
    constructor
    · rintro ⟨⟨h1, h2⟩, h3, h4, h5⟩
      refine ⟨⟨h1, h3⟩, fun q hq => ?_, h4, h5⟩
      subst hq
      have : q.time < v.time := by simpa [entAhead] using h2
      exact ⟨this, fun e he => by have := h4 e he; omega⟩
    · rintro ⟨⟨h1, h3⟩, h2, h4, h5⟩
      refine ⟨⟨h1, ?_⟩, h3, h4, h5⟩
      cases o with
      | none => rfl
      | some q => simpa [entAhead] using (h2 q rfl).1
theorem logOk_iff (l : List Ent) : logOk l = true ↔ (∀ e ∈ l, e.one = true) ∧ l.Pairwise (fun a b => a.time < b.time) ∧ l.length ≤ 12 := by
  unfold logOk
  rw [Bool.and_eq_true, prevs_pw, decide_eq_true_eq]
  constructor
  · rintro ⟨⟨h1, _, h3⟩, h4⟩
    exact ⟨h1, h3, by omega⟩
  · rintro ⟨h1, h3, h4⟩
    exact ⟨⟨h1, (fun q hq => by cases hq), h3⟩, by omega⟩
def behOk (k : Ent) (l : List Ent) : Bool := logOk [k] && (logOk l && decide (((beh k l).length : Int) ≤ 12))
end Go.Proofs.Yteaojpfofifmnaa.PE
/- Bytes of logs: both functions tell them. -/
set_option linter.unusedSimpArgs false
set_option linter.unusedVariables false
set_option maxHeartbeats 8000000
set_option maxRecDepth 20000
namespace Go.Proofs.Yteaojpfofifmnaa.PE
open Go.RowKit

theorem clipkByt (d : Nat) (l : List (List V)) (n : Nat) (hn : n = l.length) : callX (runD tab noExt (d + 1)) [.rows 0 1 l] 2 85 [.ref 0 0 0 n false] = some (.ref 0 0 0 n true, [.rows 0 1 l]) := by
  subst hn
  simp only [callX, callK]
  rw [runD_eq find85 _ _ _ (by simp)]
  simp -implicitDefEqProofs (disch := omega) only [go_sem, Nat.reduceBEq, Nat.reduceAdd, Nat.reduceSub, Nat.reduceMul, Nat.reduceLeDiff, Nat.reduceEqDiff, Nat.reduceLT, Int.reduceNeg, Int.reduceAdd, Int.reduceSub, Int.reduceMul, Int.reduceLE, Int.reduceLT, Int.reduceEq, Int.reduceToNat, reduceCtorEq, List.take_length, Bool.true_or, resOk]
theorem runcByt (d : Nat) (c : Bool) (l : List (List V)) (h0 : 0 < l.length) (hl : l.length < 4294967296) : runD tab noExt (d + 2) 80 [.sl c 1 l] [] = some ([.ref 0 0 0 l.length true], [.rows 0 1 l]) := by
  rw [runD_eq find80 _ _ _ (by simp)]
  match l, h0, hl with
  | [], h0, _ => exact absurd h0 (by decide)
  | x :: r, _, hl =>
    have h0 : ((r.length : Int) + 1 = 0) = False := eq_false (by omega)
    have h1 : r.length + 1 < 4294967296 := by simpa using hl
    have hc := clipkByt d (x :: r) (r.length + 1) (by simp)
    simp -implicitDefEqProofs (disch := omega) only [go_sem, Nat.reduceBEq, Nat.reduceAdd, Nat.reduceSub, Nat.reduceMul, Nat.reduceLeDiff, Nat.reduceEqDiff, Nat.reduceLT, Int.reduceNeg, Int.reduceAdd, Int.reduceSub, Int.reduceMul, Int.reduceLE, Int.reduceLT, Int.reduceEq, Int.reduceToNat, reduceCtorEq, List.length_cons, h0, h1, hc]
theorem runnByt (d : Nat) (c : Bool) : runD tab noExt (d + 2) 80 [.sl c 1 []] [] = some ([.sl true 1 []], []) := by
  rw [runD_eq find80 _ _ _ (by simp)]
  simp -implicitDefEqProofs (disch := omega) only [go_sem, Nat.reduceBEq, Nat.reduceAdd, Nat.reduceSub, Nat.reduceMul, Nat.reduceLeDiff, Nat.reduceEqDiff, Nat.reduceLT, Int.reduceNeg, Int.reduceAdd, Int.reduceSub, Int.reduceMul, Int.reduceLE, Int.reduceLT, Int.reduceEq, Int.reduceToNat, reduceCtorEq]
theorem own_cloneByt (d : Nat) (c : Bool) (l : List Int) (hl : l.length < 4294967296) : ∃ v hc ids, runD tab noExt (d + 2) 80 [.sl c 1 (u8s l)] [] = some ([v], hc) ∧ OwnF hc (.sub fdByte) v (.sub (byU l)) ids ∧ ids.Nodup := by
  match l, hl with
  | [], _ => exact ⟨_, _, [], runnByt d c, own_nil rfl, List.nodup_nil⟩
  | x :: r, hl => exact ⟨_, _, [0], runcByt d c (u8s (x :: r)) (by simp [u8s]) (by rw [u8s_len]; exact hl), own_bytes (x :: r) (by rw [u8s_len]) rfl, by simp⟩
theorem zip_bytes {h : Heap} : ∀ {cont : List (List V)} {l : List Int} {r : List Nat}, Zip3 (OwnR h fdByte) cont (byU l) r → cont = u8s l
  | [], [], _, _ => rfl
  | [], _ :: _, _, h => (h : False).elim
  | _ :: _, [], _, h => (h : False).elim
  | c :: cs, x :: l, r, h => by
    obtain ⟨i, j, rfl, h1, h2⟩ := h
    obtain ⟨a, rfl, h3, rfl⟩ := ownR_Byte h1
    injection h3 with h3
    injection h3 with h3
    subst h3
    rw [u8s_cons, zip_bytes h2]
theorem ent_call (d : Nat) (h : Heap) (e : Ent) (ho : logOk [e] = true) : ∃ id st clip t, callX (runD tab noExt (d + 9)) h 0 67 [.agg [.int .i64 e.time, .sl e.wc 3 (e.ws.map Wr.cells)]] = some (.ref id st 0 (frB (bodyB e)).length clip, h ++ t) ∧ (h ++ t)[id]? = some (.rows st 1 (u8s (frB (bodyB e)))) := by
  obtain ⟨v, hc, ids, q1, q2, q3⟩ := own_entryBytes d e ho
  have q1' : runD tab noExt (d + 9) 67 [.agg [.int .i64 e.time, .sl e.wc 3 (e.ws.map Wr.cells)]] [] = some ([v], hc) := q1
  obtain ⟨w, hw, js, k1, k2, k3, k4, k5, k6⟩ := own_call (h := h) (args := [.agg [.int .i64 e.time, .sl e.wc 3 (e.ws.map Wr.cells)]]) (by simp only [pureDAs, mapO, pureDA, pureD, deepest, Option.map_some]) q1' q2 q3
  have ht : hw = h ++ hw.drop h.length := by
    have : hw.take h.length = h := by
      apply List.ext_getElem?
      intro j
      rcases Nat.lt_or_ge j h.length with hj | hj
      · rw [List.getElem?_take_of_lt hj, k5 j hj]
      · rw [List.getElem?_eq_none hj, List.getElem?_eq_none (by simp; omega)]
    conv => lhs; rw [← List.take_append_drop h.length hw, this]
  simp only [OwnF] at k2
  obtain ⟨xs, e1, h2⟩ := k2
  injection e1 with e1
  subst e1
  rcases h2 with ⟨c, _, e2, _⟩ | ⟨id, st, clip, cont, r, rfl, hb, _, hz⟩
  · simp [byU, frB] at e2
  · have := zip_bytes hz
    subst this
    rw [u8s_len] at k1
    refine ⟨id, st, clip, hw.drop h.length, by rw [k1, ← ht], ?_⟩
    rw [← ht, hb]
    rfl
def entF (b : List Int) (e : Ent) : List Int := b ++ frB (bodyB e)
def logBytes (l : List Ent) : List Int := if logOk l then l.foldl entF [] else []
theorem log_one {l : List Ent} (h : logOk l = true) : ∀ e ∈ l, logOk [e] = true := by
  intro e he
  have := (logOk_iff l).1 h
  exact (logOk_iff [e]).2 ⟨fun x hx => by rw [List.mem_singleton.1 hx]; exact this.1 e he, by simp, by simp⟩
theorem fr_len {e : Ent} (h : logOk [e] = true) : 0 < (frB (bodyB e)).length ∧ (frB (bodyB e)).length ≤ 180 := by
  have := body_len h
  rw [frB_len]
  omega
theorem loop_lbI (d : Nat) (c : Bool) (l : List Ent) (hl : l.length ≤ 12) (hok : ∀ e ∈ l, logOk [e] = true) (K : Nat) (hK : (l).length ≤ K) (b0 : List Int) (hb0 : (fun (i : Nat) (b : List Int) => b.length ≤ 180 * i) 0 b0) : LoopS (runD tab noExt (d + 9)) (drawI (runD tab noExt (d + 9))) [3, 9, 10, 11] [3] L30x0 ([.rows (b0).length 1 (u8s (b0))] : Heap).length K [(3, .ref 0 (b0).length 0 (b0).length false), (9, .sl c 2 (l.map Ent.cells)), (10, .int .i64 l.length), (11, .int .i64 (0 : Nat))] [.rows (b0).length 1 (u8s (b0))] = (some (.exit 0, [(3, .ref 0 (((l).foldl (entF) b0)).length 0 (((l).foldl (entF) b0)).length false)], [.rows (((l).foldl (entF) b0)).length 1 (u8s (((l).foldl (entF) b0)))]) : Out) ∧ (fun (i : Nat) (b : List Int) => b.length ≤ 180 * i) (l).length ((l).foldl (entF) b0) := by
  have key := LoopS_foldI (run := (runD tab noExt (d + 9))) (draw := drawI (runD tab noExt (d + 9))) (live := [3, 9, 10, 11]) (out := [3]) (c := L30x0) (n0 := ([.rows (b0).length 1 (u8s (b0))] : Heap).length) (l) (entF) (fun (i : Nat) (b : List Int) => b.length ≤ 180 * i) (fun (i : Nat) (b : List Int) => [(3, .ref 0 (b).length 0 (b).length false), (9, .sl c 2 (l.map Ent.cells)), (10, .int .i64 l.length), (11, .int .i64 (i : Nat))]) (fun (i : Nat) (b : List Int) => [.rows (b).length 1 (u8s (b))]) (fun b => (some (.exit 0, [(3, .ref 0 (b).length 0 (b).length false)], [.rows (b).length 1 (u8s (b))]) : Out)) (fun b K hb => ?_) (fun (i : Nat) (x : Ent) b K hi hx hb => ?_) K hK b0 hb0
  · simp only [Int.natCast_zero] at key
    exact key
  · rw [LoopS_eq]
    simp -implicitDefEqProofs only [go_sem, Nat.reduceBEq, Nat.reduceAdd, Nat.reduceSub, Nat.reduceMul, Nat.reduceLeDiff, Nat.reduceEqDiff, Nat.reduceLT, Int.reduceNeg, Int.reduceAdd, Int.reduceSub, Int.reduceMul, Int.reduceLE, Int.reduceLT, Int.reduceEq, Int.reduceToNat, reduceCtorEq, evL30x0, B30x0, Int.lt_irrefl]
  · have hxo := hok x (List.mem_of_getElem? hx); have hxl := fr_len hxo; have sm1 : b.length + (frB (bodyB x)).length < 4294967296 := (by have := hb; omega); have hel : List.take (frB (bodyB x)).length (u8s (frB (bodyB x))) = u8s (frB (bodyB x)) := (List.take_of_length_le (by rw [u8s_len]; omega)); obtain ⟨id, st, clip, t, k1, k2⟩ := ent_call d [.rows b.length 1 (u8s b), .box [.int .i64 x.time, .sl x.wc 3 (x.ws.map Wr.cells)]] x hxo; simp only [List.cons_append, List.nil_append] at k1 k2
    all_goals
      refine ⟨?_, ?_⟩
      · (rw [entF, List.length_append]; omega)
      · rw [LoopS_eq]
        simp -implicitDefEqProofs (disch := first | omega | assumption) only [go_sem, Nat.reduceBEq, Nat.reduceAdd, Nat.reduceSub, Nat.reduceMul, Nat.reduceLeDiff, Nat.reduceEqDiff, Nat.reduceLT, Int.reduceNeg, Int.reduceAdd, Int.reduceSub, Int.reduceMul, Int.reduceLE, Int.reduceLT, Int.reduceEq, Int.reduceToNat, reduceCtorEq, evL30x0, B30x0, hi, hx, IntWalk.i64_in, List.map_append, List.foldl_cons, hx, Ent.cells, Ent.v, k1, k2, sm1, u8s_len, u8s_app, hel, List.take_length, entF, if_true, if_false]
        skip
theorem log_len {l : List Ent} (h : logOk l = true) : l.length ≤ 12 := ((logOk_iff l).1 h).2.2
-- find30
theorem own_LogBytes (d : Nat) (c : Bool) (l : List Ent) (h1 : LimE l) : ∃ v hc ids, runD tab noExt (d + 10) 30 [.sl c 2 (l.map Ent.cells)] [] = some ([v], hc) ∧ OwnF hc (.sub fdByte) v (.sub (byU (logBytes l))) ids ∧ ids.Nodup := by
  obtain ⟨e1, e2, e3⟩ := h1.fine
  have hv1 := run_logI d c l e3 e2
  unfold logBytes
  cases o1 : logOk l
  · rw [o1] at hv1
    refine ⟨.sl true 1 [], [], [], ?_, own_nil rfl, List.nodup_nil⟩
    rw [runD_eq find30 _ _ _ (by simp)]
    simp -implicitDefEqProofs (disch := omega) only [go_sem, Nat.reduceBEq, Nat.reduceAdd, Nat.reduceSub, Nat.reduceMul, Nat.reduceLeDiff, Nat.reduceEqDiff, Nat.reduceLT, Int.reduceNeg, Int.reduceAdd, Int.reduceSub, Int.reduceMul, Int.reduceLE, Int.reduceLT, Int.reduceEq, Int.reduceToNat, reduceCtorEq, hv1]
  · rw [o1] at hv1
    have hl12 := log_len o1
    obtain ⟨hl, hle⟩ := loop_lbI d c l hl12 (log_one o1) 1099511627775 (by omega) [] (by simp)
    simp only [if_true]
    generalize l.foldl entF [] = b at hl hle ⊢
    have ht : List.take b.length (u8s b) = u8s b := List.take_of_length_le (by rw [u8s_len]; omega)
    obtain ⟨v1, hc, is0, q1, q2, q3⟩ := own_cloneByt (d + 7) false b (by omega)
    obtain ⟨w, hw, js, k1, k2, k3, k4, k5, k6⟩ := own_call (h := [.rows b.length 1 (u8s b)]) (args := [.ref 0 b.length 0 b.length false]) (by simp only [pureDAs, mapO, pureDA, pureD, deepest, List.getElem?_cons_zero, if_true, List.drop_zero, ht]) q1 q2 q3
    refine ⟨w, hw, js, ?_, k2, k3⟩
    simp only [u8s_nil, List.length_nil, Int.natCast_zero] at hl
    rw [runD_eq find30 _ _ _ (by simp)]
    simp -implicitDefEqProofs (disch := omega) only [go_sem, Nat.reduceBEq, Nat.reduceAdd, Nat.reduceSub, Nat.reduceMul, Nat.reduceLeDiff, Nat.reduceEqDiff, Nat.reduceLT, Int.reduceNeg, Int.reduceAdd, Int.reduceSub, Int.reduceMul, Int.reduceLE, Int.reduceLT, Int.reduceEq, Int.reduceToNat, reduceCtorEq, hv1]
    try simp -implicitDefEqProofs only [go_sem, Nat.reduceBEq, Nat.reduceAdd, Nat.reduceSub, Nat.reduceMul, Nat.reduceLeDiff, Nat.reduceEqDiff, Nat.reduceLT, Int.reduceNeg, Int.reduceAdd, Int.reduceSub, Int.reduceMul, Int.reduceLE, Int.reduceLT, Int.reduceEq, Int.reduceToNat, reduceCtorEq] at hl
    rw [hl]
    rcases own_cases k2 with ⟨cx, rfl⟩ | ⟨id, st, m, clip, rfl⟩ <;> simp -implicitDefEqProofs (disch := first | omega | assumption) only [go_sem, Nat.reduceBEq, Nat.reduceAdd, Nat.reduceSub, Nat.reduceMul, Nat.reduceLeDiff, Nat.reduceEqDiff, Nat.reduceLT, Int.reduceNeg, Int.reduceAdd, Int.reduceSub, Int.reduceMul, Int.reduceLE, Int.reduceLT, Int.reduceEq, Int.reduceToNat, reduceCtorEq, k1, resOk]
theorem entF_vs : ∀ {a b : List Ent} (x : List Int), a.map entU = b.map entU → a.foldl entF x = b.foldl entF x
  | [], [], _, _ => rfl
  | [], _ :: _, _, h => by simp at h
  | _ :: _, [], _, h => by simp at h
  | p :: a, q :: b, x, h => by
    simp only [List.map_cons, List.cons.injEq] at h
    have e : entF x p = entF x q := by rw [entF, entF, ← bodyB_own p, ← bodyB_own q, entU_inj h.1]
    rw [List.foldl_cons, List.foldl_cons, e, entF_vs _ h.2]
theorem logBytes_vs {a b : List Ent} (h : a.map entU = b.map entU) : logBytes a = logBytes b := by rw [logBytes, logBytes, logOk_vs h, entF_vs _ h]
end Go.Proofs.Yteaojpfofifmnaa.PE
/- Whether two lists of bytes are the same; entries' bytes as a call's result. -/
set_option linter.unusedSimpArgs false
set_option linter.unusedVariables false
set_option maxHeartbeats 8000000
set_option maxRecDepth 20000
namespace Go.Proofs.Yteaojpfofifmnaa.PE
open Go.RowKit

theorem loop_eqB (d : Nat) (c c' : Bool) (a b : List Int) (hs : a.length < 1099511627776) (hlen : a.length = b.length) (K : Nat) (hK : (a.zip b).length ≤ K) : LoopS (runD tab noExt d) (drawI (runD tab noExt d)) [0, 1, 12, 13] [4] L76x0 ([] : Heap).length K [(0, .sl c 1 (u8s a)), (1, .sl c' 1 (u8s b)), (12, .int .i64 (a.length : Int)), (13, .int .i64 0)] [] = if (a.zip b).all (fun p => decide (p.1 = p.2)) then (some (.exit 0, [(4, .undef)], []) : Out) else (some (.ret, [(4, .bool false)], []) : Out) := by
  have key := LoopS_all (run := (runD tab noExt d)) (draw := drawI (runD tab noExt d)) (live := [0, 1, 12, 13]) (out := [4]) (c := L76x0) (n0 := ([] : Heap).length) (a.zip b) (fun p => decide (p.1 = p.2)) (fun (i : Nat) => [(0, .sl c 1 (u8s a)), (1, .sl c' 1 (u8s b)), (12, .int .i64 (a.length : Int)), (13, .int .i64 i)]) [] (some (.exit 0, [(4, .undef)], []) : Out) (some (.ret, [(4, .bool false)], []) : Out) (fun K => ?_) (fun (i : Nat) (x : Int × Int) K hi hx => ?_) K hK
  · simp only [Int.natCast_zero] at key
    exact key
  · rw [LoopS_eq]
    simp -implicitDefEqProofs only [go_sem, Nat.reduceBEq, Nat.reduceAdd, Nat.reduceSub, Nat.reduceMul, Nat.reduceLeDiff, Nat.reduceEqDiff, Nat.reduceLT, Int.reduceNeg, Int.reduceAdd, Int.reduceSub, Int.reduceMul, Int.reduceLE, Int.reduceLT, Int.reduceEq, Int.reduceToNat, reduceCtorEq, evL76x0, B76x0, Int.lt_irrefl, List.length_zip, hlen, Nat.min_self, evC_draw, evD76x0, E76x0, u8s_len]
  · obtain ⟨g1, g2⟩ := List.getElem?_zip_eq_some.1 hx; rw [List.length_zip, hlen, Nat.min_self] at hi; obtain ⟨k1, k2⟩ := x; have g1 := u8s_at g1; have g2 := u8s_at g2
    rw [LoopS_eq]
    simp -implicitDefEqProofs (disch := omega) only [go_sem, Nat.reduceBEq, Nat.reduceAdd, Nat.reduceSub, Nat.reduceMul, Nat.reduceLeDiff, Nat.reduceEqDiff, Nat.reduceLT, Int.reduceNeg, Int.reduceAdd, Int.reduceSub, Int.reduceMul, Int.reduceLE, Int.reduceLT, Int.reduceEq, Int.reduceToNat, reduceCtorEq, evL76x0, B76x0, hi, hx, IntWalk.i64_in, List.length_zip, hlen, Nat.min_self, evC_draw, evD76x0, E76x0, u8s_len, *]
    repeat' ((first | rw [GuardI_ndec] | rw [CondC_ndec] | rw [GuardQ_ndec] | rw [GuardI_dec] | rw [CondC_dec] | rw [GuardQ_dec] | rw [GuardI_nby] | rw [CondC_nby] | rw [GuardQ_nby] | rw [GuardQ_by] | rw [GuardI_by] | rw [CondC_by]) <;> split <;> simp -implicitDefEqProofs (disch := omega) only [go_sem, Nat.reduceBEq, Nat.reduceAdd, Nat.reduceSub, Nat.reduceMul, Nat.reduceLeDiff, Nat.reduceEqDiff, Nat.reduceLT, Int.reduceNeg, Int.reduceAdd, Int.reduceSub, Int.reduceMul, Int.reduceLE, Int.reduceLT, Int.reduceEq, Int.reduceToNat, reduceCtorEq, hi, hx, IntWalk.i64_in, List.length_zip, hlen, Nat.min_self, evC_draw, evD76x0, E76x0, u8s_len, *, *])
    all_goals first | rfl | (simp_all []; done) | (simp_all []; omega)
-- find76
theorem run_eqB (d : Nat) (c c' : Bool) (a b : List Int) (hs : a.length < 1099511627776) : retP (runD tab noExt (d + 1)) 76 [.sl c 1 (u8s a), .sl c' 1 (u8s b)] = some [.bool (decide (a = b))] := by
  rw [retP, runD_eq find76 _ _ _ (by simp)]
  by_cases hlen : a.length = b.length
  · have hl := loop_eqB d c c' a b hs hlen 1099511627775 (by simp; omega)
    simp -implicitDefEqProofs only [go_sem, Nat.reduceBEq, Nat.reduceAdd, Nat.reduceSub, Nat.reduceMul, Nat.reduceLeDiff, Nat.reduceEqDiff, Nat.reduceLT, Int.reduceNeg, Int.reduceAdd, Int.reduceSub, Int.reduceMul, Int.reduceLE, Int.reduceLT, Int.reduceEq, Int.reduceToNat, reduceCtorEq, hlen, u8s_len] at hl ⊢
    rw [hl, zip_same a b hlen]
    by_cases h : a = b <;> simp -implicitDefEqProofs only [go_sem, Nat.reduceBEq, Nat.reduceAdd, Nat.reduceSub, Nat.reduceMul, Nat.reduceLeDiff, Nat.reduceEqDiff, Nat.reduceLT, Int.reduceNeg, Int.reduceAdd, Int.reduceSub, Int.reduceMul, Int.reduceLE, Int.reduceLT, Int.reduceEq, Int.reduceToNat, reduceCtorEq, h]
  · have h1 : ((a.length : Int) = b.length) = False := eq_false (by omega)
    have h2 : ¬ a = b := fun e => hlen (by rw [e])
    simp -implicitDefEqProofs only [go_sem, Nat.reduceBEq, Nat.reduceAdd, Nat.reduceSub, Nat.reduceMul, Nat.reduceLeDiff, Nat.reduceEqDiff, Nat.reduceLT, Int.reduceNeg, Int.reduceAdd, Int.reduceSub, Int.reduceMul, Int.reduceLE, Int.reduceLT, Int.reduceEq, Int.reduceToNat, reduceCtorEq, h1, h2, u8s_len]
/-- A heap behind a call: what was there, and more. -/
theorem heap_more {h hw : Heap} (k5 : ∀ j, j < h.length → hw[j]? = h[j]?) : hw = h ++ hw.drop h.length := by
  have : hw.take h.length = h := by
    apply List.ext_getElem?
    intro j
    rcases Nat.lt_or_ge j h.length with hj | hj
    · rw [List.getElem?_take_of_lt hj, k5 j hj]
    · rw [List.getElem?_eq_none hj, List.getElem?_eq_none (by simp; omega)]
  conv => lhs; rw [← List.take_append_drop h.length hw, this]
theorem entB_call (d : Nat) (h : Heap) {args args' : List V} (e : Ent) (hp : pureDAs h args = some args') (ha : args' = [.agg e.cells]) (h1 : LimE [e]) : ∃ v t, callX (runD tab noExt (d + 10)) h 0 18 args = some (v, h ++ t) ∧
    ((∃ c, v = .sl c 1 [] ∧ entBytes e = []) ∨ ∃ id st clip, v = .ref id st 0 (entBytes e).length clip ∧ (h ++ t)[id]? = some (.rows st 1 (u8s (entBytes e)))) := by
  obtain ⟨v, hc, ids, q1, q2, q3⟩ := own_EntryBytes d e h1
  rw [← ha] at q1
  obtain ⟨w, hw, js, k1, k2, k3, k4, k5, k6⟩ := own_call (h := h) hp q1 q2 q3
  have ht := heap_more k5
  refine ⟨w, hw.drop h.length, by rw [k1, ← ht], ?_⟩
  rw [← ht]
  simp only [OwnF] at k2
  obtain ⟨xs, e1, h2⟩ := k2
  injection e1 with e1
  subst e1
  rcases h2 with ⟨c, rfl, e2, _⟩ | ⟨id, st, clip, cont, r, rfl, hb, _, hz⟩
  · left
    refine ⟨c, rfl, ?_⟩
    have := congrArg List.length e2
    rw [by_len] at this
    exact List.length_eq_zero_iff.1 this
  · right
    have := zip_bytes hz
    subst this
    refine ⟨id, st, clip, by rw [u8s_len], hb⟩
end Go.Proofs.Yteaojpfofifmnaa.PE
/- Entries read: the program's loop. -/
set_option linter.unusedSimpArgs false
set_option linter.unusedVariables false
set_option maxHeartbeats 8000000
set_option maxRecDepth 20000
namespace Go.Proofs.Yteaojpfofifmnaa.PE
open Go.RowKit

theorem run_rowFromI (d : Nat) (c : Bool) (b : List UInt8) (hb : b.length < 1099511627776) : ∃ cl, retP (runD tab noExt (d + 6)) 31 [.sl c 1 (cellsOfBytes b)] = some [.sl cl 3 ((rFrom b).1.map Val.cells), .int .i64 (rFrom b).2] := by
  obtain ⟨v, hc, ids, r, o, _⟩ := own_rowFrom d c b hb
  obtain ⟨q, e, g⟩ := retP_ownI r o (by decide)
  obtain ⟨cl, ct, rfl, hz⟩ := purS_Value g
  obtain ⟨vs, rfl, h2⟩ := valsU_of hz
  have : (rFrom b).1 = vs := by simpa using map_same (fun _ _ => valU_inj) h2
  exact ⟨cl, by rw [e, this]⟩
-- find27
theorem step_efI (d : Nat) (c c0 : Bool) (b : List (List V)) (n : Nat) (t : Int) (kk : Nat) (i : Nat) (hi : i < kk) (hk : kk ≤ 255) (ws : List Wr) (hl : ws.length = i) (x y : UInt8) (r : List UInt8) (hr : r.length < 1099511627776) (h0 : 0 < r.length) (hn : (rFrom r).2 ≠ 0) (K : Nat) :
    ∃ cl, LoopS (runD tab noExt (d + 10)) (drawI (runD tab noExt (d + 10))) [0, 2, 5, 6, 7, 33, 34] [0, 2, 3, 5, 6] L27x0 2 (K + 1) [(0, .sl c0 1 b), (2, .ptr 0 0 0 0), (5, .int .i64 n), (6, .ptr 1 0 0 0), (7, .sl c 1 (cellsOfBytes (x :: y :: r))), (33, .int .i64 kk), (34, .int .i64 i)] (wHeap t ws) = LoopS (runD tab noExt (d + 10)) (drawI (runD tab noExt (d + 10))) [0, 2, 5, 6, 7, 33, 34] [0, 2, 3, 5, 6] L27x0 2 K [(0, .sl c0 1 b), (2, .ptr 0 0 0 0), (5, .int .i64 n), (6, .ptr 1 0 0 0), (7, .sl c 1 (cellsOfBytes (r.drop (rFrom r).2))), (33, .int .i64 kk), (34, .int .i64 (i + 1 : Nat))] (wHeap t (ws ++ [⟨x.toNat, ⟨cl, (rFrom r).1⟩, decide (y.toNat = 1)⟩])) := by
  obtain ⟨cl, hv⟩ := run_rowFromI (d + 4) c r hr
  refine ⟨cl, ?_⟩
  have hle := rFrom_le r
  have hx := x.toNat_lt
  have hyl := y.toNat_lt
  have htk : List.take r.length (cellsOfBytes r) = cellsOfBytes r := List.take_of_length_le (by rw [cob_len]; omega)
  have htk2 : List.take (r.length - (rFrom r).2) (cellsOfBytes (r.drop (rFrom r).2)) = cellsOfBytes (r.drop (rFrom r).2) := List.take_of_length_le (by rw [cob_len, List.length_drop]; omega)
  have g1 : ((r.length : Int) + 2 < 3) = False := eq_false (by omega)
  have g3 : (((rFrom r).2 : Int) = 0) = False := eq_false (by omega)
  have g4 : (decide ((y.toNat : Int) = 1)) = decide (y.toNat = 1) := decide_eq_decide.2 (by omega)
  have g5 : ((i : Int) < kk) := by omega
  have g6 : ((2 : Int) + (rFrom r).2).toNat = (rFrom r).2 + 2 := by omega
  have g7 : (2 : Int) + (rFrom r).2 ≤ (r.length : Int) + 2 := by omega
  have g8 : (0 : Int) ≤ 2 + (rFrom r).2 := by omega
  have g9 : (2 : Int) ≤ (r.length : Int) + 2 := by omega
  have g10 : (1 : Int) < (r.length : Int) + 2 := by omega
  have g11 : (0 : Int) < (r.length : Int) + 2 := by omega
  have g12 : ((r.length : Int) + 2).toNat = r.length + 2 := by omega
  cases ws with
  | nil =>
    rw [LoopS_eq]
    simp -implicitDefEqProofs (disch := omega) only [go_sem, Nat.reduceBEq, Nat.reduceAdd, Nat.reduceSub, Nat.reduceMul, Nat.reduceLeDiff, Nat.reduceEqDiff, Nat.reduceLT, Int.reduceNeg, Int.reduceAdd, Int.reduceSub, Int.reduceMul, Int.reduceLE, Int.reduceLT, Int.reduceEq, Int.reduceToNat, reduceCtorEq, evL27x0, B27x0, evC_draw, evD27x0, E27x0, wHeap, wPtr, wTail, Wr.cells, Row.v, cob_cons, cob_len, cob_drop, htk, htk2, hv, g1, g3, g4, g5, g6, g7, g8, g9, g10, g11, g12, Nat.add_sub_cancel, Nat.add_sub_add_right, IntWalk.i64_in, elemsOf, elemOf]
  | cons w ws =>
    have hsm : ws.length + 1 + 1 < 4294967296 := by simp only [List.length_cons] at hl; omega
    rw [LoopS_eq]
    simp -implicitDefEqProofs (disch := omega) only [go_sem, Nat.reduceBEq, Nat.reduceAdd, Nat.reduceSub, Nat.reduceMul, Nat.reduceLeDiff, Nat.reduceEqDiff, Nat.reduceLT, Int.reduceNeg, Int.reduceAdd, Int.reduceSub, Int.reduceMul, Int.reduceLE, Int.reduceLT, Int.reduceEq, Int.reduceToNat, reduceCtorEq, evL27x0, B27x0, evC_draw, evD27x0, E27x0, wHeap, wPtr, wTail, Wr.cells, Row.v, cob_cons, cob_len, cob_drop, htk, htk2, hv, hsm, g1, g3, g4, g5, g6, g7, g8, g9, g10, g11, g12, Nat.add_sub_cancel, Nat.add_sub_add_right, IntWalk.i64_in, elemsOf, elemOf, List.map_append, List.length_append]
end Go.Proofs.Yteaojpfofifmnaa.PE
/- Entries read: the program. -/
set_option linter.unusedSimpArgs false
set_option linter.unusedVariables false
set_option maxHeartbeats 8000000
set_option maxRecDepth 20000
namespace Go.Proofs.Yteaojpfofifmnaa.PE
open Go.RowKit

-- find27
theorem wsI_two {m : Nat} {x y : UInt8} {r : List UInt8} (h : (rFrom r).2 = 0) : wsI (m + 1) (x :: y :: r) = none := by simp only [wsI, if_pos h]
theorem loop_efI (d : Nat) (c0 : Bool) (b : List (List V)) (n : Nat) (t : Int) (kk : Nat) (hk : kk ≤ 255) : ∀ (m i : Nat) (c : Bool) (rest : List UInt8) (ws : List Wr), i + m = kk → rest.length < 1099511627776 → ws.length = i → ∀ K, m ≤ K →
    match wsI m rest with
    | none => ∃ (ws' : List Wr), LoopS (runD tab noExt (d + 10)) (drawI (runD tab noExt (d + 10))) [0, 2, 5, 6, 7, 33, 34] [0, 2, 3, 5, 6] L27x0 2 K [(0, .sl c0 1 b), (2, .ptr 0 0 0 0), (5, .int .i64 n), (6, .ptr 1 0 0 0), (7, .sl c 1 (cellsOfBytes rest)), (33, .int .i64 kk), (34, .int .i64 i)] (wHeap t ws) = some (.ret, [(0, .sl c0 1 b), (2, .ptr 0 0 0 0), (3, .int .i64 0), (5, .int .i64 n), (6, .ptr 1 0 0 0)], wHeap t ws')
    | some (vs, _) => ∃ (ws' : List Wr), ws'.map wrU = ws.map wrU ++ vs.map wrU ∧ LoopS (runD tab noExt (d + 10)) (drawI (runD tab noExt (d + 10))) [0, 2, 5, 6, 7, 33, 34] [0, 2, 3, 5, 6] L27x0 2 K [(0, .sl c0 1 b), (2, .ptr 0 0 0 0), (5, .int .i64 n), (6, .ptr 1 0 0 0), (7, .sl c 1 (cellsOfBytes rest)), (33, .int .i64 kk), (34, .int .i64 i)] (wHeap t ws) = some (.exit 0, [(0, .sl c0 1 b), (2, .ptr 0 0 0 0), (3, .undef), (5, .int .i64 n), (6, .ptr 1 0 0 0)], wHeap t ws')
  | 0, i, c, rest, ws, hi, hp, hr, K, hK => by
    have e : i = kk := by omega
    subst e
    simp only [wsI]
    refine ⟨ws, by simp, ?_⟩
    rw [LoopS_eq]
    cases ws <;> simp -implicitDefEqProofs (disch := omega) only [go_sem, Nat.reduceBEq, Nat.reduceAdd, Nat.reduceSub, Nat.reduceMul, Nat.reduceLeDiff, Nat.reduceEqDiff, Nat.reduceLT, Int.reduceNeg, Int.reduceAdd, Int.reduceSub, Int.reduceMul, Int.reduceLE, Int.reduceLT, Int.reduceEq, Int.reduceToNat, reduceCtorEq, evL27x0, B27x0, wHeap, wPtr, wTail, IntWalk.i64_in, Int.lt_irrefl]
  | m + 1, i, c, rest, ws, hi, hp, hr, K, hK => by
    obtain ⟨K, rfl⟩ : ∃ k', K = k' + 1 := ⟨K - 1, by omega⟩
    have hlt : (i : Int) < kk := by omega
    match rest, hp with
    | [], _ =>
      refine ⟨ws, ?_⟩
      rw [LoopS_eq]
      cases ws <;> simp -implicitDefEqProofs (disch := omega) only [go_sem, Nat.reduceBEq, Nat.reduceAdd, Nat.reduceSub, Nat.reduceMul, Nat.reduceLeDiff, Nat.reduceEqDiff, Nat.reduceLT, Int.reduceNeg, Int.reduceAdd, Int.reduceSub, Int.reduceMul, Int.reduceLE, Int.reduceLT, Int.reduceEq, Int.reduceToNat, reduceCtorEq, evL27x0, B27x0, wHeap, wPtr, wTail, hlt, cob_nil, IntWalk.i64_in]
    | [x], _ =>
      refine ⟨ws, ?_⟩
      rw [LoopS_eq]
      cases ws <;> simp -implicitDefEqProofs (disch := omega) only [go_sem, Nat.reduceBEq, Nat.reduceAdd, Nat.reduceSub, Nat.reduceMul, Nat.reduceLeDiff, Nat.reduceEqDiff, Nat.reduceLT, Int.reduceNeg, Int.reduceAdd, Int.reduceSub, Int.reduceMul, Int.reduceLE, Int.reduceLT, Int.reduceEq, Int.reduceToNat, reduceCtorEq, evL27x0, B27x0, wHeap, wPtr, wTail, hlt, cob_nil, cob_cons, IntWalk.i64_in]
    | [x, y], _ =>
      refine ⟨ws, ?_⟩
      rw [LoopS_eq]
      cases ws <;> simp -implicitDefEqProofs (disch := omega) only [go_sem, Nat.reduceBEq, Nat.reduceAdd, Nat.reduceSub, Nat.reduceMul, Nat.reduceLeDiff, Nat.reduceEqDiff, Nat.reduceLT, Int.reduceNeg, Int.reduceAdd, Int.reduceSub, Int.reduceMul, Int.reduceLE, Int.reduceLT, Int.reduceEq, Int.reduceToNat, reduceCtorEq, evL27x0, B27x0, wHeap, wPtr, wTail, hlt, cob_nil, cob_cons, IntWalk.i64_in]
    | x :: y :: z :: r, hp =>
      generalize hrr : z :: r = r1 at hp ⊢
      have h0 : 0 < r1.length := by rw [← hrr]; simp
      have hr1 : r1.length < 1099511627776 := by simp only [List.length_cons] at hp; omega
      clear hrr
      by_cases hn : (rFrom r1).2 = 0
      · rw [wsI_two hn]
        refine ⟨ws, ?_⟩
        obtain ⟨cl, hv⟩ := run_rowFromI (d + 4) c r1 hr1
        have htk : List.take r1.length (cellsOfBytes r1) = cellsOfBytes r1 := List.take_of_length_le (by rw [cob_len]; omega)
        have g1 : ((r1.length : Int) + 2 < 3) = False := eq_false (by omega)
        have g3 : (((rFrom r1).2 : Int) = 0) := by omega
        have g9 : (2 : Int) ≤ (r1.length : Int) + 2 := by omega
        have g12 : ((r1.length : Int) + 2).toNat = r1.length + 2 := by omega
        rw [LoopS_eq]
        cases ws <;> simp -implicitDefEqProofs (disch := omega) only [go_sem, Nat.reduceBEq, Nat.reduceAdd, Nat.reduceSub, Nat.reduceMul, Nat.reduceLeDiff, Nat.reduceEqDiff, Nat.reduceLT, Int.reduceNeg, Int.reduceAdd, Int.reduceSub, Int.reduceMul, Int.reduceLE, Int.reduceLT, Int.reduceEq, Int.reduceToNat, reduceCtorEq, evL27x0, B27x0, wHeap, wPtr, wTail, hlt, cob_cons, cob_len, cob_drop, htk, hv, g1, g3, g9, g12, Nat.add_sub_cancel, IntWalk.i64_in]
      · obtain ⟨cl, step⟩ := step_efI d c c0 b n t kk i (by omega) hk ws hr x y r1 hr1 h0 hn K
        have ih := loop_efI d c0 b n t kk hk m (i + 1) c (r1.drop (rFrom r1).2) (ws ++ [⟨x.toNat, ⟨cl, (rFrom r1).1⟩, decide (y.toNat = 1)⟩]) (by omega) (by rw [List.length_drop]; omega) (by simp [hr]) K (by omega)
        have e : wsI (m + 1) (x :: y :: r1) = match wsI m (r1.drop (rFrom r1).2) with
          | none => none
          | some (ws, n) => some (wrOf x y r1 :: ws, (rFrom r1).2 + n + 2) := by simp only [wsI, if_neg hn]; try (cases wsI m (r1.drop (rFrom r1).2) <;> rfl)
        rw [e, step]
        revert ih
        generalize wsI m (r1.drop (rFrom r1).2) = R
        intro ih
        cases R with
        | none => exact ih
        | some q =>
          obtain ⟨vs, n⟩ := q
          simp only at ih ⊢
          obtain ⟨ws', h1, h2⟩ := ih
          refine ⟨ws', ?_, h2⟩
          rw [h1]
          simp [wrU, wrOf]
end Go.Proofs.Yteaojpfofifmnaa.PE
/- Entries read: the program, as memory of one's own. -/
set_option linter.unusedSimpArgs false
set_option linter.unusedVariables false
set_option maxHeartbeats 8000000
set_option maxRecDepth 20000
namespace Go.Proofs.Yteaojpfofifmnaa.PE
open Go.RowKit

theorem wHeap_pure (t : Int) (ws : List Wr) : pureDAs (wHeap t ws) [.agg [.int .i64 t, wPtr ws]] = some [.agg (Ent.cells ⟨t, ws.isEmpty, ws⟩)] := by
  cases ws with
  | nil => simp only [wHeap, wPtr, wTail, pureDAs, mapO, pureDA, pureD, deepest, Option.map_some, Ent.cells, Ent.v, List.isEmpty_nil, List.map_nil]
  | cons w r =>
    have ht : List.take (r.length + 1) ((w :: r).map Wr.cells) = (w :: r).map Wr.cells := List.take_of_length_le (by simp)
    simp only [wHeap, wPtr, wTail, pureDAs, mapO, pureDA, pureD, deepest, Option.map_some, Ent.cells, Ent.v, List.isEmpty_cons, List.getElem?_cons_succ, List.getElem?_cons_zero, if_true, List.drop_zero, ht]
theorem wHeap_pure1 (t : Int) (ws : List Wr) (tt : Heap) : pureDAs (wHeap t ws ++ tt) [wPtr ws] = some [.sl ws.isEmpty 3 (ws.map Wr.cells)] := by
  cases ws with
  | nil => simp only [wHeap, wPtr, wTail, pureDAs, mapO, pureDA, pureD, deepest, Option.map_some, List.isEmpty_nil, List.map_nil]
  | cons w r =>
    have ht : List.take (r.length + 1) ((w :: r).map Wr.cells) = (w :: r).map Wr.cells := List.take_of_length_le (by simp)
    simp only [wHeap, wPtr, wTail, pureDAs, mapO, pureDA, pureD, deepest, Option.map_some, List.isEmpty_cons, List.cons_append, List.getElem?_cons_succ, List.getElem?_cons_zero, if_true, List.drop_zero, ht]
theorem wsS_none {m : Nat} {b : List UInt8} (h : wsI m b = none) : wsS m b = none := by
  cases hS : wsS m b with
  | none => rfl
  | some q => rw [wsS_wsI m b hS] at h; cases h
-- find27
theorem own_eFrom (d : Nat) (c : Bool) (b : List UInt8) (hb : b.length < 1099511627776) : ∃ v hc ids, runD tab noExt (d + 11) 27 [.sl c 1 (cellsOfBytes b)] [] = some ([.agg [.int .i64 (eFrom b).1.time, v], .int .i64 (eFrom b).2], hc) ∧ OwnF hc (.sub fdWrite) v (.sub ((eFrom b).1.ws.map wrU)) ids ∧ ids.Nodup := by
  obtain ⟨c', hu⟩ := run_unframed (d + 8) c b hb
  unfold eFrom
  cases hU : unF b with
  | none =>
    rw [hU] at hu
    simp only at hu ⊢
    refine ⟨.sl true 3 [], [.box [.int .i64 0, .sl true 3 []]], [], ?_, own_nil rfl, List.nodup_nil⟩
    rw [runD_eq find27 _ _ _ (by simp)]
    simp -implicitDefEqProofs (disch := omega) only [go_sem, Nat.reduceBEq, Nat.reduceAdd, Nat.reduceSub, Nat.reduceMul, Nat.reduceLeDiff, Nat.reduceEqDiff, Nat.reduceLT, Int.reduceNeg, Int.reduceAdd, Int.reduceSub, Int.reduceMul, Int.reduceLE, Int.reduceLT, Int.reduceEq, Int.reduceToNat, reduceCtorEq, hu, entZ]
  | some q =>
    obtain ⟨body, n⟩ := q
    rw [hU] at hu
    simp only at hu ⊢
    obtain ⟨u1, u2, u3⟩ := unF_some hU
    have n0 : ((n : Int) = 0) = False := eq_false (by omega)
    match body, hu, hU, u1, u3 with
    | [], hu, hU, u1, u3 =>
      refine ⟨.sl true 3 [], [.box [.int .i64 0, .sl true 3 []]], [], ?_, own_nil rfl, List.nodup_nil⟩
      rw [runD_eq find27 _ _ _ (by simp)]
      simp -implicitDefEqProofs (disch := omega) only [go_sem, Nat.reduceBEq, Nat.reduceAdd, Nat.reduceSub, Nat.reduceMul, Nat.reduceLeDiff, Nat.reduceEqDiff, Nat.reduceLT, Int.reduceNeg, Int.reduceAdd, Int.reduceSub, Int.reduceMul, Int.reduceLE, Int.reduceLT, Int.reduceEq, Int.reduceToNat, reduceCtorEq, hu, n0, cob_nil, entZ, readS]
    | [x], hu, hU, u1, u3 =>
      refine ⟨.sl true 3 [], [.box [.int .i64 0, .sl true 3 []]], [], ?_, own_nil rfl, List.nodup_nil⟩
      rw [runD_eq find27 _ _ _ (by simp)]
      simp -implicitDefEqProofs (disch := omega) only [go_sem, Nat.reduceBEq, Nat.reduceAdd, Nat.reduceSub, Nat.reduceMul, Nat.reduceLeDiff, Nat.reduceEqDiff, Nat.reduceLT, Int.reduceNeg, Int.reduceAdd, Int.reduceSub, Int.reduceMul, Int.reduceLE, Int.reduceLT, Int.reduceEq, Int.reduceToNat, reduceCtorEq, hu, n0, cob_cons, cob_nil, entZ, readS]
    | t :: m :: rest, hu, hU, u1, u3 =>
      have hm := m.toNat_lt
      have ht := t.toNat_lt
      have l2 : ((rest.length : Int) + 2 < 2) = False := eq_false (by omega)
      have g9 : (2 : Int) ≤ (rest.length : Int) + 2 := by omega
      have g12 : ((rest.length : Int) + 2).toNat = rest.length + 2 := by omega
      have htk : List.take rest.length (cellsOfBytes rest) = cellsOfBytes rest := List.take_of_length_le (by rw [cob_len]; omega)
      have hl := loop_efI d c (cellsOfBytes b) n t.toNat m.toNat (by omega) m.toNat 0 c' rest [] (by omega) (by simp only [List.length_cons] at u1; omega) rfl 1099511627775 (by omega)
      simp only [List.map_nil, List.nil_append, Int.natCast_zero] at hl
      revert hl
      generalize hR : wsI m.toNat rest = R
      intro hl
      cases R with
      | none =>
        obtain ⟨ws', hl⟩ := hl
        simp only [wHeap, wPtr, wTail, go_sem, Nat.reduceBEq, Nat.reduceAdd, Nat.reduceSub, Nat.reduceMul, Nat.reduceLeDiff, Nat.reduceEqDiff, Nat.reduceLT, Int.reduceNeg, Int.reduceAdd, Int.reduceSub, Int.reduceMul, Int.reduceLE, Int.reduceLT, Int.reduceEq, Int.reduceToNat, reduceCtorEq] at hl
        have hrd : readS (t :: m :: rest) = none := by simp only [readS, wsS_none hR]
        rw [hrd]
        refine ⟨.sl true 3 [], wHeap t.toNat ws', [], ?_, own_nil rfl, List.nodup_nil⟩
        rw [runD_eq find27 _ _ _ (by simp)]
        simp -implicitDefEqProofs (disch := omega) only [go_sem, Nat.reduceBEq, Nat.reduceAdd, Nat.reduceSub, Nat.reduceMul, Nat.reduceLeDiff, Nat.reduceEqDiff, Nat.reduceLT, Int.reduceNeg, Int.reduceAdd, Int.reduceSub, Int.reduceMul, Int.reduceLE, Int.reduceLT, Int.reduceEq, Int.reduceToNat, reduceCtorEq, hu, n0, l2, g9, g12, htk, Nat.add_sub_cancel, cob_cons, cob_len, entZ, IntWalk.i64_in]
        rw [hl]
        cases ws' <;> simp -implicitDefEqProofs (disch := omega) only [go_sem, Nat.reduceBEq, Nat.reduceAdd, Nat.reduceSub, Nat.reduceMul, Nat.reduceLeDiff, Nat.reduceEqDiff, Nat.reduceLT, Int.reduceNeg, Int.reduceAdd, Int.reduceSub, Int.reduceMul, Int.reduceLE, Int.reduceLT, Int.reduceEq, Int.reduceToNat, reduceCtorEq, wHeap, wPtr, wTail]
      | some q =>
        obtain ⟨vs, k⟩ := q
        obtain ⟨ws', hws, hl⟩ := hl
        have hlim := wsI_lim (by omega) hR t.toNat vs.isEmpty
        have back := back_iff (c := vs.isEmpty) hU hR
        have heU : entU ⟨(t.toNat : Int), ws'.isEmpty, ws'⟩ = entU ⟨t.toNat, vs.isEmpty, vs⟩ := by simp [entU, hws]
        have hE := entBytes_vs heU
        have hLim' : LimE [⟨(t.toNat : Int), ws'.isEmpty, ws'⟩] := ents_lim (by
          have := ents_len hlim
          simp only [List.map_cons, List.map_nil, ← heU] at this ⊢
          exact this)
        obtain ⟨w, tt, kE, hw⟩ := entB_call d (wHeap t.toNat ws') _ (wHeap_pure t.toNat ws') rfl hLim'
        have heq : ∀ a cc, retP (runD tab noExt (d + 10)) 76 [.sl a 1 (u8s (entBytes ⟨t.toNat, ws'.isEmpty, ws'⟩)), .sl cc 1 (cellsOfBytes (b.take n))] = some [.bool (decide (entBytes ⟨t.toNat, ws'.isEmpty, ws'⟩ = toI (b.take n)))] := fun a cc => by
          rw [cob_u8s]
          exact run_eqB (d + 9) a cc _ _ (by have := entBytes_len ⟨(t.toNat : Int), ws'.isEmpty, ws'⟩; omega)
        obtain ⟨v1, hc1, is1, q1, q2, q3⟩ := own_writesCopy (d + 7) ws'.isEmpty ws' (hLim'.fine.1.2 _ (List.mem_singleton.2 rfl))
        obtain ⟨v, hw2, js, k1, k2, k3, k4, k5, k6⟩ := own_call (h := wHeap t.toNat ws' ++ tt) (args := [wPtr ws']) (wHeap_pure1 t.toNat ws' tt) q1 q2 q3
        have htb : ∀ l : List Int, List.take l.length (u8s l) = u8s l := fun l => List.take_of_length_le (by rw [u8s_len]; omega)
        have gn : (n : Int) ≤ b.length := by omega
        have f0 : hw2[0]? = some (.box [.int .i64 0, .sl true 3 []]) := (k5 0 (by simp [wHeap])).trans rfl
        have f1 : hw2[1]? = some (.box [.int .i64 t.toNat, wPtr ws']) := (k5 1 (by simp [wHeap])).trans rfl
        have z1 : 1 < hw2.length := (List.getElem?_eq_some_iff.1 f1).1
        have z0 : 0 < hw2.length := by omega
        by_cases hq : entBytes ⟨(t.toNat : Int), ws'.isEmpty, ws'⟩ = toI (b.take n)
        · obtain ⟨b1, b2, b3⟩ := back.1 (hE ▸ hq)
          have hrd : readS (t :: m :: rest) = some ⟨t.toNat, vs.isEmpty, vs⟩ := by simp only [readS, b1]; rw [if_pos ⟨b2, b3⟩]
          rw [hrd]
          simp only [decide_eq_true hq] at heq
          refine ⟨v, (hw2.set 1 (.box [.int .i64 t.toNat, v])).set 0 (.box [.int .i64 t.toNat, v]), js, ?_, ?_, k3⟩
          rotate_left
          · rw [← hws]
            refine OwnF_frame _ k2 (fun j hj => ?_)
            have g1 := k4 j hj
            have g3 : 2 ≤ j := by simp only [wHeap, List.cons_append, List.length_cons] at g1; omega
            rw [List.getElem?_set_ne (by omega), List.getElem?_set_ne (by omega)]
          simp only [wHeap, wPtr, wTail, go_sem, Nat.reduceBEq, Nat.reduceAdd, Nat.reduceSub, Nat.reduceMul, Nat.reduceLeDiff, Nat.reduceEqDiff, Nat.reduceLT, Int.reduceNeg, Int.reduceAdd, Int.reduceSub, Int.reduceMul, Int.reduceLE, Int.reduceLT, Int.reduceEq, Int.reduceToNat, reduceCtorEq] at hl
          rw [runD_eq find27 _ _ _ (by simp)]
          simp -implicitDefEqProofs (disch := omega) only [go_sem, Nat.reduceBEq, Nat.reduceAdd, Nat.reduceSub, Nat.reduceMul, Nat.reduceLeDiff, Nat.reduceEqDiff, Nat.reduceLT, Int.reduceNeg, Int.reduceAdd, Int.reduceSub, Int.reduceMul, Int.reduceLE, Int.reduceLT, Int.reduceEq, Int.reduceToNat, reduceCtorEq, hu, n0, l2, g9, g12, htk, Nat.add_sub_cancel, cob_cons, cob_len, entZ, IntWalk.i64_in]
          rw [hl]
          clear hl
          have hv := own_cases k2
          clear k2
          rcases hw with ⟨cw, rfl, h0⟩ | ⟨id, st, clip, rfl, hbk⟩
          · rw [h0] at heq
            simp only [u8s_nil] at heq
            cases ws' <;> simp only [wHeap, wPtr, wTail, List.map_cons, List.cons_append, List.nil_append] at kE k1 f1 ⊢ <;> rcases hv with ⟨cx, rfl⟩ | ⟨idx, stx, mx, clipx, rfl⟩ <;> simp -implicitDefEqProofs (disch := first | omega | (simp only [List.length_set]; omega)) only [go_sem, Nat.reduceBEq, Nat.reduceAdd, Nat.reduceSub, Nat.reduceMul, Nat.reduceLeDiff, Nat.reduceEqDiff, Nat.reduceLT, Int.reduceNeg, Int.reduceAdd, Int.reduceSub, Int.reduceMul, Int.reduceLE, Int.reduceLT, Int.reduceEq, Int.reduceToNat, reduceCtorEq, evC_draw, evD27x1, E27x1, kE, heq, gn, cob_len, cob_take, k1, f0, f1, z0, z1, List.getElem?_set_self, List.getElem?_set_ne, List.length_set, List.set_set, okN]
          · have hte := htb (entBytes ⟨t.toNat, ws'.isEmpty, ws'⟩)
            cases ws' <;> simp only [wHeap, wPtr, wTail, List.map_cons, List.cons_append, List.nil_append] at kE hbk k1 f1 ⊢ <;> rcases hv with ⟨cx, rfl⟩ | ⟨idx, stx, mx, clipx, rfl⟩ <;> simp -implicitDefEqProofs (disch := first | omega | (simp only [List.length_set]; omega)) only [go_sem, Nat.reduceBEq, Nat.reduceAdd, Nat.reduceSub, Nat.reduceMul, Nat.reduceLeDiff, Nat.reduceEqDiff, Nat.reduceLT, Int.reduceNeg, Int.reduceAdd, Int.reduceSub, Int.reduceMul, Int.reduceLE, Int.reduceLT, Int.reduceEq, Int.reduceToNat, reduceCtorEq, evC_draw, evD27x1, E27x1, kE, heq, gn, cob_len, cob_take, hbk, hte, k1, f0, f1, z0, z1, List.getElem?_set_self, List.getElem?_set_ne, List.length_set, List.set_set, okN]
        · have hrd : readS (t :: m :: rest) = none := by
            simp only [readS]
            cases hS : wsS m.toNat rest with
            | none => rfl
            | some q =>
              have := wsS_wsI _ _ hS
              rw [hR] at this
              simp only [Option.some.injEq] at this
              subst this
              simp only
              rw [if_neg (fun h => hq (hE.trans (back.2 ⟨hS, h.1, h.2⟩)))]
          rw [hrd]
          simp only [decide_eq_false hq] at heq
          refine ⟨.sl true 3 [], wHeap t.toNat ws' ++ tt, [], ?_, own_nil rfl, List.nodup_nil⟩
          simp only [wHeap, wPtr, wTail, go_sem, Nat.reduceBEq, Nat.reduceAdd, Nat.reduceSub, Nat.reduceMul, Nat.reduceLeDiff, Nat.reduceEqDiff, Nat.reduceLT, Int.reduceNeg, Int.reduceAdd, Int.reduceSub, Int.reduceMul, Int.reduceLE, Int.reduceLT, Int.reduceEq, Int.reduceToNat, reduceCtorEq] at hl
          rw [runD_eq find27 _ _ _ (by simp)]
          simp -implicitDefEqProofs (disch := omega) only [go_sem, Nat.reduceBEq, Nat.reduceAdd, Nat.reduceSub, Nat.reduceMul, Nat.reduceLeDiff, Nat.reduceEqDiff, Nat.reduceLT, Int.reduceNeg, Int.reduceAdd, Int.reduceSub, Int.reduceMul, Int.reduceLE, Int.reduceLT, Int.reduceEq, Int.reduceToNat, reduceCtorEq, hu, n0, l2, g9, g12, htk, Nat.add_sub_cancel, cob_cons, cob_len, entZ, IntWalk.i64_in]
          rw [hl]
          clear hl
          rcases hw with ⟨cw, rfl, h0⟩ | ⟨id, st, clip, rfl, hbk⟩
          · rw [h0] at heq
            simp only [u8s_nil] at heq
            cases ws' <;> simp only [wHeap, wPtr, wTail, List.map_cons, List.cons_append, List.nil_append] at kE  ⊢ <;> simp -implicitDefEqProofs (disch := first | omega | (simp only [List.length_set]; omega)) only [go_sem, Nat.reduceBEq, Nat.reduceAdd, Nat.reduceSub, Nat.reduceMul, Nat.reduceLeDiff, Nat.reduceEqDiff, Nat.reduceLT, Int.reduceNeg, Int.reduceAdd, Int.reduceSub, Int.reduceMul, Int.reduceLE, Int.reduceLT, Int.reduceEq, Int.reduceToNat, reduceCtorEq, evC_draw, evD27x1, E27x1, kE, heq, gn, cob_len, cob_take, List.set_cons_zero]
          · have hte := htb (entBytes ⟨t.toNat, ws'.isEmpty, ws'⟩)
            cases ws' <;> simp only [wHeap, wPtr, wTail, List.map_cons, List.cons_append, List.nil_append] at kE hbk  ⊢ <;> simp -implicitDefEqProofs (disch := first | omega | (simp only [List.length_set]; omega)) only [go_sem, Nat.reduceBEq, Nat.reduceAdd, Nat.reduceSub, Nat.reduceMul, Nat.reduceLeDiff, Nat.reduceEqDiff, Nat.reduceLT, Int.reduceNeg, Int.reduceAdd, Int.reduceSub, Int.reduceMul, Int.reduceLE, Int.reduceLT, Int.reduceEq, Int.reduceToNat, reduceCtorEq, evC_draw, evD27x1, E27x1, kE, heq, gn, cob_len, cob_take, hbk, hte, List.set_cons_zero]
end Go.Proofs.Yteaojpfofifmnaa.PE
/- A list of bytes that comes in, as the evaluator reads it. -/
set_option linter.unusedVariables false
set_option linter.unusedSimpArgs false
namespace Go.Proofs.Yteaojpfofifmnaa.PE
open Go.RowKit

def IsRow (w : World) (a : Option Addr) (len cap : Nat) : Prop :=
  (a = none ∧ len = 0 ∧ cap = 0) ∨
  ∃ (x : Addr) (zs : List Int), a = some x ∧ len ≤ cap ∧ cap ≤ maxLen ∧ zs.length = cap ∧ (∀ i, i < zs.length → w.cell? (x.add i) = some (.int .u8 (zs.getD i 0))) ∧ ∀ n ∈ zs, (Lit.int .u8 n).wf = true

theorem IsRow.rep {w : World} {a : Option Addr} {len cap : Nat} (h : IsRow w a len cap) : ∃ l : List UInt8, l.length ≤ maxLen ∧ RepA w (fun b => b < w.heap.size) (.slice a len cap) (.sl false 1 (cellsOfBytes l)) := by
  rcases h with ⟨rfl, rfl, rfl⟩ | ⟨x, zs, rfl, h1, h2, h3, h4, h5⟩
  · exact ⟨[], Nat.zero_le _, rep_empty (by decide) (fun h => by cases h)⟩
  · have hb : ∀ i, i < zs.length → 0 ≤ zs.getD i 0 ∧ zs.getD i 0 < 256 := fun i hi => by
      have := h5 (zs.getD i 0) (by rw [List.getD_eq_getElem?_getD, List.getElem?_eq_getElem hi]; exact List.getElem_mem hi)
      simp only [Lit.wf, decide_eq_true_eq] at this
      have h1 : IntKind.u8.min = 0 := rfl
      have h2 : IntKind.u8.max = 255 := rfl
      simp only [Bool.and_eq_true, decide_eq_true_eq, h1, h2] at this
      omega
    refine ⟨(zs.take len).map fun z => UInt8.ofNat z.toNat, by simp; omega, ?_⟩
    refine Rep.sl (some x) len cap false _ 1 (fun j _ => .int .u8 (zs.getD j 0)) (by simp [cellsOfBytes]; omega) h1 (fun h => by cases h) (by decide) (fun y hy => ?_) (fun hn => ?_) (fun j c y z hy hz => ?_)
    · simp only [cellsOfBytes, List.mem_map] at hy
      obtain ⟨b, _, rfl⟩ := hy
      rfl
    · obtain ⟨g, o, sp⟩ := x
      have h0 := h4 0 (by omega)
      have hsp : sp = none := by
        simp only [Addr.add, if_true] at h0
        unfold World.cell? at h0
        cases sp with
        | none => rfl
        | some s => simp at h0; split at h0 <;> cases h0
      subst hsp
      refine ⟨g, o, rfl, ?_, fun j c y z hy hz => ?_⟩
      · simp only [Addr.add, if_true] at h0
        unfold World.cell? at h0
        rcases Nat.lt_or_ge g w.heap.size with hg | hg
        · exact hg
        · rw [Array.getElem?_eq_none hg] at h0; cases h0
      · have hj : j < ((zs.take len).map fun z => UInt8.ofNat z.toNat).length := by
          have := (List.getElem?_eq_some_iff.1 hy).1
          simpa [cellsOfBytes] using this
        simp only [List.length_map, List.length_take] at hj
        simp only [cellsOfBytes, List.getElem?_map] at hy
        obtain ⟨b, _, rfl⟩ := Option.map_eq_some_iff.1 hy
        have hc : c = 0 := by
          have := (List.getElem?_eq_some_iff.1 hz).1
          simp at this
          omega
        subst hc
        have := h4 j (by omega)
        rw [add0] at this
        simpa using this
    · have hj : j < zs.length := by
        have := (List.getElem?_eq_some_iff.1 hy).1
        simp [cellsOfBytes] at this
        omega
      have hjl : j < len := by
        have := (List.getElem?_eq_some_iff.1 hy).1
        simp [cellsOfBytes] at this
        omega
      have hbj := hb j hj
      have hc : c = 0 := by
        simp only [cellsOfBytes, List.getElem?_map] at hy
        obtain ⟨b, _, rfl⟩ := Option.map_eq_some_iff.1 hy
        have := (List.getElem?_eq_some_iff.1 hz).1
        simp at this
        omega
      subst hc
      rw [List.getD_eq_getElem?_getD, List.getElem?_eq_getElem hj] at hbj
      simp [cellsOfBytes, List.getElem?_take_of_lt hjl, List.getElem?_eq_getElem hj] at hy
      subst hy
      simp at hz
      subst hz
      simp only [Option.getD_some] at hbj
      have e : ((UInt8.ofNat (zs[j]).toNat).toNat : Int) = zs[j] := by
        simp
        omega
      simp only [List.getD_eq_getElem?_getD, List.getElem?_eq_getElem hj, Option.getD_some]
      rw [show max zs[j] 0 % 256 = zs[j] by omega]
      exact .int _ _
end Go.Proofs.Yteaojpfofifmnaa.PE
/- Arguments of any plain kind, as they are read: values of the evaluator. -/
set_option linter.unusedVariables false
set_option linter.unusedSimpArgs false
namespace Go.Proofs.Yteaojpfofifmnaa.PE
open Go.RowKit

mutual
def tyF (P : Program) : Nat → TypeId → Fd → Bool
  | 0, _, _ => false
  | n + 1, t, .int k => match P.underlying t with
    | some (.int k') => decide (k' = k)
    | _ => false
  | n + 1, t, .bool => match P.underlying t with
    | some .bool => true
    | _ => false
  | n + 1, t, .str => match P.underlying t with
    | some .string => true
    | _ => false
  | n + 1, t, .sub fs => match P.underlying t with
    | some (.slice e) => decide (P.cellsOf e = fs.length) && decide (0 < fs.length) && tyR P n e fs
    | _ => false
def tyR (P : Program) : Nat → TypeId → List Fd → Bool
  | 0, _, _ => false
  | n + 1, t, fs => match P.underlying t with
    | some (.struct flds) => decide (P.cellsOf t = fs.length) && tyS P n flds.toList 0 fs
    | _ => match fs with
      | [f] => tyF P n t f
      | _ => false
def tyS (P : Program) : Nat → List Field → Nat → List Fd → Bool
  | 0, _, _, _ => false
  | n + 1, [], _, fs => fs.isEmpty
  | n + 1, fl :: r, off, fs => decide (fl.offset = off) && tyR P n fl.type (fs.take (P.cellsOf fl.type)) && decide (P.cellsOf fl.type ≤ fs.length) && tyS P n r (off + P.cellsOf fl.type) (fs.drop (P.cellsOf fl.type))
end

def B63 : Nat := 9223372036854775807
section
variable {H : Type} {enc : TypeId × Value → H} {P : Program} {w : World} {base : Nat} {spare : Nat → Bool} {held : Bool}

/-- Cells and what they are. -/
def Got (w : World) (fs : List Fd) (cs : List Value) : Prop := ∃ (ps : List V) (us : List U), PurR fs ps us ∧ LenR B63 B63 fs us ∧ ps.length = cs.length ∧ ∀ (i : Nat) (y : V), ps[i]? = some y → ∃ u, cs[i]? = some u ∧ Rep w (fun b => b < w.heap.size) u y
theorem Got.one {f : Fd} {v : Value} {p : V} {u : U} (h1 : PurF f p u) (h2 : LenF B63 B63 f u) (h3 : Rep w (fun b => b < w.heap.size) v p) : Got w [f] [v] := by
  refine ⟨[p], [u], by simp only [PurR]; exact ⟨p, [], u, [], rfl, rfl, h1, rfl, rfl⟩, by simp only [LenR]; exact ⟨h2, trivial⟩, rfl, fun i y hy => ?_⟩
  cases i with
  | zero => simp at hy; subst hy; exact ⟨v, rfl, h3⟩
  | succ i => simp at hy
theorem PurR_len : ∀ {fs : List Fd} {ps : List V} {us : List U}, PurR fs ps us → ps.length = fs.length ∧ us.length = fs.length
  | [], _, _, h => by simp only [PurR] at h; rw [h.1, h.2]; exact ⟨rfl, rfl⟩
  | f :: fs, _, _, h => by
    simp only [PurR] at h
    obtain ⟨v, c', u, x', rfl, rfl, _, h2⟩ := h
    have := PurR_len h2
    simp [this.1, this.2]
theorem PurR_app : ∀ {f1 f2 : List Fd} {p1 p2 : List V} {u1 u2 : List U}, PurR f1 p1 u1 → PurR f2 p2 u2 → PurR (f1 ++ f2) (p1 ++ p2) (u1 ++ u2)
  | [], _, _, _, _, _, h, h2 => by simp only [PurR] at h; rw [h.1, h.2]; exact h2
  | f :: f1, f2, _, p2, _, u2, h, h2 => by
    simp only [PurR] at h
    obtain ⟨v, c', u, x', rfl, rfl, h3, h4⟩ := h
    show PurR (f :: (f1 ++ f2)) _ _
    simp only [PurR]
    exact ⟨v, c' ++ p2, u, x' ++ u2, rfl, rfl, h3, PurR_app h4 h2⟩
theorem LenR_app {n m : Nat} : ∀ {f1 f2 : List Fd} {u1 u2 : List U}, u1.length = f1.length → LenR n m f1 u1 → LenR n m f2 u2 → LenR n m (f1 ++ f2) (u1 ++ u2)
  | [], _, u1, _, hl, _, h2 => by
    have : u1 = [] := List.eq_nil_of_length_eq_zero hl
    subst this
    exact h2
  | f :: f1, f2, u :: u1, u2, hl, h, h2 => by
    show LenR n m (f :: (f1 ++ f2)) (u :: (u1 ++ u2))
    simp only [LenR] at h ⊢
    exact ⟨h.1, LenR_app (by simpa using hl) h.2 h2⟩
  | _ :: _, _, [], _, hl, _, _ => by simp at hl
theorem Got.app {f1 f2 : List Fd} {c1 c2 : List Value} (h1 : Got w f1 c1) (h2 : Got w f2 c2) : Got w (f1 ++ f2) (c1 ++ c2) := by
  obtain ⟨p1, u1, a1, a2, a3, a4⟩ := h1
  obtain ⟨p2, u2, b1, b2, b3, b4⟩ := h2
  refine ⟨p1 ++ p2, u1 ++ u2, PurR_app a1 b1, LenR_app (PurR_len a1).2 a2 b2, by simp [a3, b3], fun i y hy => ?_⟩
  rcases Nat.lt_or_ge i p1.length with hi | hi
  · rw [List.getElem?_append_left hi] at hy
    obtain ⟨u, hu, hr⟩ := a4 i y hy
    exact ⟨u, by rw [List.getElem?_append_left (by omega)]; exact hu, hr⟩
  · rw [List.getElem?_append_right hi] at hy
    obtain ⟨u, hu, hr⟩ := b4 _ y hy
    exact ⟨u, by rw [List.getElem?_append_right (by omega), ← a3]; exact hu, hr⟩

theorem plain_addr {a : Addr} {v : Value} (h : w.cell? a = some v) : ∃ g o, a = ⟨g, o, none⟩ ∧ g < w.heap.size := by
  obtain ⟨g, o, sp⟩ := a
  unfold World.cell? at h
  have hg : g < w.heap.size := by
    rcases Nat.lt_or_ge g w.heap.size with h1 | h1
    · exact h1
    · rw [Array.getElem?_eq_none h1] at h; cases sp <;> simp at h
  cases sp with
  | none => exact ⟨g, o, rfl, hg⟩
  | some s => simp at h; split at h <;> cases h

/-- A slice out of its elements. -/
theorem got_slice {fs : List Fd} {a : Addr} {len cap : Nat} (hpos : 0 < fs.length) (hl : len ≤ cap) (hm : cap ≤ maxLen) (hx : ∀ i, i < len → ∃ cs', w.cells? base (a.add (i * fs.length)) fs.length = some cs' ∧ Got w fs cs') :
    Got w [.sub fs] [.slice (some a) len cap] := by
  have hx' : ∀ i, i < len → ∃ q : List V × List U × List Value, w.cells? base (a.add (i * fs.length)) fs.length = some q.2.2 ∧ PurR fs q.1 q.2.1 ∧ LenR B63 B63 fs q.2.1 ∧ q.1.length = q.2.2.length ∧ ∀ (j : Nat) (y : V), q.1[j]? = some y → ∃ u, q.2.2[j]? = some u ∧ Rep w (fun b => b < w.heap.size) u y := by
    intro i hi
    obtain ⟨cs', h1, ps, us, h2, h3, h4, h5⟩ := hx i hi
    exact ⟨(ps, us, cs'), h1, h2, h3, h4, h5⟩
  obtain ⟨q, hq⟩ := Go.Deep.choose_lt hx'
  have hzip : ∀ (n : Nat), n ≤ len → Zip2 (PurR fs) ((List.range n).map fun i => (q i).1) ((List.range n).map fun i => (q i).2.1) ∧ AllU (LenR B63 B63 fs) ((List.range n).map fun i => (q i).2.1) := by
    have z2 : ∀ {l1 : List (List V)} {l2 : List (List U)} {c : List V} {x : List U}, Zip2 (PurR fs) l1 l2 → PurR fs c x → Zip2 (PurR fs) (l1 ++ [c]) (l2 ++ [x]) := by
      intro l1
      induction l1 with
      | nil => intro l2 c x h hc; cases l2 with
        | nil => exact ⟨hc, trivial⟩
        | cons b bs => exact h.elim
      | cons a l1 ih => intro l2 c x h hc; cases l2 with
        | nil => exact h.elim
        | cons b bs => exact ⟨h.1, ih h.2 hc⟩
    have a2 : ∀ {l2 : List (List U)} {x : List U}, AllU (LenR B63 B63 fs) l2 → LenR B63 B63 fs x → AllU (LenR B63 B63 fs) (l2 ++ [x]) := by
      intro l2
      induction l2 with
      | nil => intro x _ hx; exact ⟨hx, trivial⟩
      | cons b bs ih => intro x h hx; exact ⟨h.1, ih h.2 hx⟩
    intro n
    induction n with
    | zero => intro _; exact ⟨trivial, trivial⟩
    | succ n ih =>
      intro hn
      obtain ⟨i1, i2⟩ := ih (by omega)
      obtain ⟨_, b1, b2, _⟩ := hq n (by omega)
      rw [List.range_succ, List.map_append, List.map_append]
      exact ⟨z2 i1 b1, a2 i2 b2⟩
  obtain ⟨z1, z2⟩ := hzip len (Nat.le_refl _)
  have hml : maxLen = 9223372036854775807 := by decide
  refine Got.one (p := .sl false fs.length ((List.range len).map fun i => (q i).1)) (u := .sub ((List.range len).map fun i => (q i).2.1)) ?_ ?_ ?_
  · simp only [PurF]
    exact ⟨false, _, _, rfl, rfl, z1⟩
  · simp only [LenF, List.length_map, List.length_range]
    exact ⟨by unfold B63; omega, z2⟩
  · have hlen : ∀ j x, ((List.range len).map fun i => (q i).1)[j]? = some x → j < len ∧ x = (q j).1 := by
      intro j x hx
      rw [List.getElem?_map] at hx
      obtain ⟨k, hk, rfl⟩ := Option.map_eq_some_iff.1 hx
      have hj : j < len := by
        have := (List.getElem?_eq_some_iff.1 hk).1
        simpa using this
      rw [List.getElem?_range hj] at hk
      injection hk with hk
      subst hk
      exact ⟨hj, rfl⟩
    have hcell : ∀ (j c : Nat) (y : V), j < len → (q j).1[c]? = some y → ∃ u, (q j).2.2[c]? = some u ∧ w.cell? ((a.add (j * fs.length)).add c) = some u ∧ Rep w (fun b => b < w.heap.size) u y := by
      intro j c y hj hy
      obtain ⟨h1, h2, h3, h4, h5⟩ := hq j hj
      obtain ⟨_, h6, h7⟩ := World.cells?_some h1
      obtain ⟨u, hu, hr⟩ := h5 c y hy
      have hc : c < fs.length := by
        have := (List.getElem?_eq_some_iff.1 hu).1
        omega
      exact ⟨u, hu, (h7 c hc).trans hu, hr⟩
    refine Rep.sl (some a) len cap false _ fs.length (fun j c => ((q j).2.2[c]?).getD undef) (by simp) hl (fun e => by cases e) hpos (fun x hx => ?_) (fun hn => ?_) (fun j c x y hx hy => ?_)
    · obtain ⟨j, hj⟩ := List.getElem?_of_mem hx
      obtain ⟨h1, rfl⟩ := hlen j x hj
      exact (PurR_len (hq j h1).2.1).1
    · have h0 := (PurR_len (hq 0 hn).2.1).1
      have hy0 : (q 0).1[0]? = some (q 0).1[0] := List.getElem?_eq_getElem (by omega)
      obtain ⟨u0, _, c0, _⟩ := hcell 0 0 _ hn hy0
      rw [Nat.zero_mul] at c0
      have ha : (a.add 0).add 0 = a := by simp [Addr.add]
      rw [ha] at c0
      obtain ⟨g, o, rfl, hg⟩ := plain_addr c0
      refine ⟨g, o, rfl, hg, fun j c x y hx hy => ?_⟩
      obtain ⟨h1, rfl⟩ := hlen j x hx
      obtain ⟨u, hu, hc, _⟩ := hcell j c y h1 hy
      rw [add0, add0] at hc
      rw [hc, hu]
      rfl
    · obtain ⟨h1, rfl⟩ := hlen j x hx
      obtain ⟨u, hu, _, hr⟩ := hcell j c y h1 hy
      show Rep w _ (((q j).2.2[c]?).getD undef) y
      rw [hu]
      exact hr

mutual
theorem gotF : ∀ (n : Nat) {t : TypeId} {f : Fd} {fuel : Nat} {cs : List Value} {x : DataW H × List MemPlace}, tyF P n t f = true → DataW.trod enc P w base spare held fuel t cs = some x → Got w [f] cs
  | 0, _, _, _, _, _, ht, _ => by simp [tyF] at ht
  | n + 1, t, .int k, fuel, cs, x, ht, h => by
    simp only [tyF] at ht
    split at ht
    · rename_i k' hu
      simp only [decide_eq_true_eq] at ht
      subst ht
      obtain ⟨m, rfl, _, _⟩ := DataW.trod_int hu h
      exact Got.one (p := .int k' m) (u := .int m) (by simp only [PurF]; exact ⟨m, rfl, rfl⟩) (by simp [LenF]) (.int _ _)
    · cases ht
  | n + 1, t, .bool, fuel, cs, x, ht, h => by
    simp only [tyF] at ht
    split at ht
    · rename_i hu
      obtain ⟨m, rfl, _⟩ := DataW.trod_bool hu h
      exact Got.one (p := .bool m) (u := .bool m) (by simp only [PurF]; exact ⟨m, rfl, rfl⟩) (by simp [LenF]) (.bool _)
    · cases ht
  | n + 1, t, .str, fuel, cs, x, ht, h => by
    simp only [tyF] at ht
    split at ht
    · rename_i hu
      obtain ⟨m, rfl, _, hm⟩ := DataW.trod_string hu h
      have hml : maxLen = 9223372036854775807 := by decide
      exact Got.one (p := .str m) (u := .str m) (by simp only [PurF]; exact ⟨m, rfl, rfl⟩) (by simp only [LenF]; unfold B63; omega) (.str _)
    · cases ht
  | n + 1, t, .sub fs, fuel, cs, x, ht, h => by
    simp only [tyF] at ht
    split at ht
    · rename_i e hu
      simp only [Bool.and_eq_true, decide_eq_true_eq] at ht
      obtain ⟨⟨hc, hpos⟩, hr⟩ := ht
      rcases Go.Deep.open_slice hu h with ⟨rfl, _⟩ | ⟨a, len, cap, m, k, D, Pl, rfl, hb, hl, hm, hmm, _, hx⟩
      · exact Got.one (p := .sl true fs.length []) (u := .sub []) (by rw [PurF]; exact ⟨true, [], [], rfl, rfl, trivial⟩) (by simp only [LenF]; exact ⟨Nat.zero_le _, trivial⟩) (rep_empty hpos (fun _ => rfl))
      · refine got_slice (base := base) hpos hl hm (fun i hi => ?_)
        obtain ⟨cs', h1, h2⟩ := hx i (by rw [hmm]; split <;> omega)
        rw [hc] at h1
        exact ⟨cs', h1, gotR n hr h2⟩
    · cases ht
theorem gotR : ∀ (n : Nat) {t : TypeId} {fs : List Fd} {fuel : Nat} {cs : List Value} {x : DataW H × List MemPlace}, tyR P n t fs = true → DataW.trod enc P w base spare held fuel t cs = some x → Got w fs cs
  | 0, _, _, _, _, _, ht, _ => by simp [tyR] at ht
  | n + 1, t, fs, fuel, cs, x, ht, h => by
    simp only [tyR] at ht
    split at ht
    · rename_i flds hu
      simp only [Bool.and_eq_true, decide_eq_true_eq] at ht
      obtain ⟨xs, k, _, _, hcl, hxl, hf⟩ := DataW.trod_struct hu h
      refine gotS n (cs := cs) (off := 0) (fuel := k) ht.2 (by omega) (fun i fl hi => ?_)
      have hlt : i < xs.length := by
        have := (List.getElem?_eq_some_iff.1 hi).1
        simp at this
        omega
      rw [Array.getElem?_toList] at hi
      exact ⟨xs[i], by rw [hf i fl hi, List.getElem?_eq_getElem hlt]⟩
    · split at ht
      · rename_i f
        exact gotF n ht h
      · cases ht
theorem gotS : ∀ (n : Nat) {flds : List Field} {off : Nat} {fs : List Fd} {fuel : Nat} {cs : List Value}, tyS P n flds off fs = true → cs.length = off + fs.length → (∀ (i : Nat) (fl : Field), flds[i]? = some fl → ∃ x, DataW.trod enc P w base spare held fuel fl.type ((cs.drop fl.offset).take (P.cellsOf fl.type)) = some x) → Got w fs (cs.drop off)
  | 0, _, _, _, _, _, ht, _, _ => by simp [tyS] at ht
  | n + 1, [], off, fs, fuel, cs, ht, hl, _ => by
    simp only [tyS, List.isEmpty_iff] at ht
    subst ht
    rw [List.drop_of_length_le (by simp at hl; omega)]
    exact ⟨[], [], by simp [PurR], by simp [LenR], rfl, fun i y hy => by simp at hy⟩
  | n + 1, fl :: r, off, fs, fuel, cs, ht, hl, hx => by
    simp only [tyS, Bool.and_eq_true, decide_eq_true_eq] at ht
    obtain ⟨⟨⟨ho, h1⟩, hle⟩, h2⟩ := ht
    obtain ⟨x, hx0⟩ := hx 0 fl rfl
    rw [ho] at hx0
    have g1 := gotR n h1 hx0
    have g2 := gotS n (cs := cs) (off := off + P.cellsOf fl.type) h2 (by rw [List.length_drop]; omega) (fun i f hi => hx (i + 1) f (by simpa using hi))
    have g := g1.app g2
    rw [List.take_append_drop] at g
    rw [← List.drop_drop, List.take_append_drop] at g
    exact g
end
end
end Go.Proofs.Yteaojpfofifmnaa.PE
/- A list of bytes that comes in, as a tree. -/
set_option linter.unusedSimpArgs false
set_option linter.unusedVariables false
namespace Go.Proofs.Yteaojpfofifmnaa.PE
open Go.RowKit

def bsU (l : List UInt8) : List (List U) := l.map fun b => [U.int b.toNat]
end Go.Proofs.Yteaojpfofifmnaa.PE
/- Entries read: what both functions come to, for the exact statement. -/
set_option linter.unusedSimpArgs false
set_option linter.unusedVariables false
set_option maxHeartbeats 4000000
namespace Go.Proofs.Yteaojpfofifmnaa.PE
open Go.RowKit

end Go.Proofs.Yteaojpfofifmnaa.PE
/- Logs read: the reference. -/
set_option linter.unusedSimpArgs false
set_option linter.unusedVariables false
set_option maxHeartbeats 8000000
set_option maxRecDepth 20000
namespace Go.Proofs.Yteaojpfofifmnaa.PE
open Go.RowKit

/-- The entries that bytes begin with, behind others, as long as all are a log. -/
def lFrom : Nat → List Ent → List UInt8 → List Ent
  | 0, out, _ => out
  | f + 1, out, b => if (eFrom b).2 = 0 then out else if logOk (out ++ [(eFrom b).1]) = true then lFrom f (out ++ [(eFrom b).1]) (b.drop (eFrom b).2) else out
theorem lim_snoc {out : List Ent} (h : LimE out) (hl : out.length ≤ 12) {e : Ent} (he : LimE [e]) : LimE (out ++ [e]) := by
  refine ⟨by simp; omega, fun x hx => ?_⟩
  rcases List.mem_append.1 hx with hx | hx
  · exact h.2 x hx
  · exact he.2 x hx
theorem lFrom_ok : ∀ (f : Nat) (out : List Ent) (b : List UInt8), LimE out → logOk out = true → LimE (lFrom f out b) ∧ logOk (lFrom f out b) = true
  | 0, out, b, h1, h2 => ⟨h1, h2⟩
  | f + 1, out, b, h1, h2 => by
    simp only [lFrom]
    split
    · exact ⟨h1, h2⟩
    · split
      · rename_i ho
        exact lFrom_ok f _ _ (lim_snoc h1 (log_len h2) (eFrom_lim b)) ho
      · exact ⟨h1, h2⟩
theorem lFrom_nil (f : Nat) (out : List Ent) : lFrom f out [] = out := by cases f <;> rfl
-- find33
theorem loop_lfS (d : Nat) (c : Bool) (b : List UInt8) (hb : b.length < 1099511627776) : ∀ (f : Nat) (out : List Ent) (p : Nat), out.length + f = 13 → p ≤ b.length → LimE out → logOk out = true → ∀ K, f ≤ K →
    LoopS (runD tab noExt (d + 8)) (drawI (runD tab noExt (d + 8))) [0, 3, 4] [2, 3] L33x0 2 K [(0, .sl c 1 (cellsOfBytes b)), (3, .ref 1 out.length 0 out.length false), (4, .int .i64 p)] [.rows 0 2 [], .rows out.length 2 (out.map Ent.cells)] = some (.ret, [(2, .ref 1 (lFrom f out (b.drop p)).length 0 (lFrom f out (b.drop p)).length false), (3, .ref 1 (lFrom f out (b.drop p)).length 0 (lFrom f out (b.drop p)).length false)], [.rows 0 2 [], .rows (lFrom f out (b.drop p)).length 2 ((lFrom f out (b.drop p)).map Ent.cells)]) ∨
    LoopS (runD tab noExt (d + 8)) (drawI (runD tab noExt (d + 8))) [0, 3, 4] [2, 3] L33x0 2 K [(0, .sl c 1 (cellsOfBytes b)), (3, .ref 1 out.length 0 out.length false), (4, .int .i64 p)] [.rows 0 2 [], .rows out.length 2 (out.map Ent.cells)] = some (.exit 0, [(2, .undef), (3, .ref 1 (lFrom f out (b.drop p)).length 0 (lFrom f out (b.drop p)).length false)], [.rows 0 2 [], .rows (lFrom f out (b.drop p)).length 2 ((lFrom f out (b.drop p)).map Ent.cells)])
  | 0, out, p, hf, hp, h1, h2, K, hK => by
    have := log_len h2
    omega
  | f + 1, out, p, hf, hp, h1, h2, K, hK => by
    obtain ⟨K, rfl⟩ : ∃ k', K = k' + 1 := ⟨K - 1, by omega⟩
    have hl12 := log_len h2
    by_cases hlt : p < b.length
    · have g1 : (p : Int) < b.length := by omega
      have g2 : (p : Int) ≤ b.length := by omega
      have hv := run_eFromS d c (b.drop p) (by rw [List.length_drop]; omega)
      have htk : List.take (b.length - p) (cellsOfBytes (b.drop p)) = cellsOfBytes (b.drop p) := List.take_of_length_le (by rw [cob_len, List.length_drop]; omega)
      have hlim := lim_snoc h1 hl12 (eFrom_lim (b.drop p))
      obtain ⟨_, e2, e3⟩ := hlim.fine
      have hlo : ∀ c, retP (runD tab noExt (d + 8)) 63 [.sl c 2 ((out ++ [(eFrom (b.drop p)).1]).map Ent.cells)] = some [.bool (logOk (out ++ [(eFrom (b.drop p)).1]))] := fun c => run_logS (d + 3) c _ e3 e2
      simp only [List.map_append, List.map_cons, List.map_nil, Ent.cells, Ent.v] at hlo hv
      have hto : List.take out.length (out.map Ent.cells) = out.map Ent.cells := List.take_of_length_le (by simp)
      have htn : ∀ x, List.take (out.length + 1) (out.map Ent.cells ++ [x]) = out.map Ent.cells ++ [x] := fun x => List.take_of_length_le (by simp)
      have sm1 : out.length < 4294967296 := by omega
      have sm2 : out.length + 1 < 4294967296 := by omega
      simp only [lFrom]
      by_cases hn : (eFrom (b.drop p)).2 = 0
      · left
        have g3 : ((eFrom (b.drop p)).2 : Int) = 0 := by omega
        rw [if_pos hn, LoopS_eq]
        simp -implicitDefEqProofs (disch := omega) only [go_sem, Nat.reduceBEq, Nat.reduceAdd, Nat.reduceSub, Nat.reduceMul, Nat.reduceLeDiff, Nat.reduceEqDiff, Nat.reduceLT, Int.reduceNeg, Int.reduceAdd, Int.reduceSub, Int.reduceMul, Int.reduceLE, Int.reduceLT, Int.reduceEq, Int.reduceToNat, reduceCtorEq, evL33x0, B33x0, evC_draw, evD33x0, E33x0, g1, g2, g3, cob_len, cob_drop, htk, hv, elemsOf, elemOf]
      · have g3 : (((eFrom (b.drop p)).2 : Int) = 0) = False := eq_false (by omega)
        rw [if_neg hn]
        cases ho : logOk (out ++ [(eFrom (b.drop p)).1])
        · left
          rw [ho] at hlo
          simp only [Bool.false_eq_true, if_false]
          rw [LoopS_eq]
          simp -implicitDefEqProofs (disch := omega) only [go_sem, Nat.reduceBEq, Nat.reduceAdd, Nat.reduceSub, Nat.reduceMul, Nat.reduceLeDiff, Nat.reduceEqDiff, Nat.reduceLT, Int.reduceNeg, Int.reduceAdd, Int.reduceSub, Int.reduceMul, Int.reduceLE, Int.reduceLT, Int.reduceEq, Int.reduceToNat, reduceCtorEq, evL33x0, B33x0, evC_draw, evD33x0, E33x0, g1, g2, g3, cob_len, cob_drop, htk, hv, hlo, hto, htn, sm1, sm2, elemsOf, elemOf]
        · rw [ho] at hlo
          have hle := eFrom_le (b.drop p)
          rw [List.length_drop] at hle
          have ih := loop_lfS d c b hb f (out ++ [(eFrom (b.drop p)).1]) (p + (eFrom (b.drop p)).2) (by simp; omega) (by omega) hlim ho K (by omega)
          rw [← List.drop_drop] at ih
          simp only [if_true]
          have step : LoopS (runD tab noExt (d + 8)) (drawI (runD tab noExt (d + 8))) [0, 3, 4] [2, 3] L33x0 2 (K + 1) [(0, .sl c 1 (cellsOfBytes b)), (3, .ref 1 out.length 0 out.length false), (4, .int .i64 p)] [.rows 0 2 [], .rows out.length 2 (out.map Ent.cells)] = LoopS (runD tab noExt (d + 8)) (drawI (runD tab noExt (d + 8))) [0, 3, 4] [2, 3] L33x0 2 K [(0, .sl c 1 (cellsOfBytes b)), (3, .ref 1 (out ++ [(eFrom (b.drop p)).1]).length 0 (out ++ [(eFrom (b.drop p)).1]).length false), (4, .int .i64 (p + (eFrom (b.drop p)).2 : Nat))] [.rows 0 2 [], .rows (out ++ [(eFrom (b.drop p)).1]).length 2 ((out ++ [(eFrom (b.drop p)).1]).map Ent.cells)] := by
            rw [LoopS_eq]
            simp -implicitDefEqProofs (disch := omega) only [go_sem, Nat.reduceBEq, Nat.reduceAdd, Nat.reduceSub, Nat.reduceMul, Nat.reduceLeDiff, Nat.reduceEqDiff, Nat.reduceLT, Int.reduceNeg, Int.reduceAdd, Int.reduceSub, Int.reduceMul, Int.reduceLE, Int.reduceLT, Int.reduceEq, Int.reduceToNat, reduceCtorEq, evL33x0, B33x0, evC_draw, evD33x0, E33x0, g1, g2, g3, cob_len, cob_drop, htk, hv, hlo, hto, htn, sm1, sm2, elemsOf, elemOf, List.map_append, List.length_append, Ent.cells, Ent.v, IntWalk.i64_in]
          rw [step]
          exact ih
    · right
      have g1 : ((p : Int) < b.length) = False := eq_false (by omega)
      have e : b.drop p = [] := List.drop_eq_nil_of_le (by omega)
      rw [e, lFrom_nil, LoopS_eq]
      simp -implicitDefEqProofs (disch := omega) only [go_sem, Nat.reduceBEq, Nat.reduceAdd, Nat.reduceSub, Nat.reduceMul, Nat.reduceLeDiff, Nat.reduceEqDiff, Nat.reduceLT, Int.reduceNeg, Int.reduceAdd, Int.reduceSub, Int.reduceMul, Int.reduceLE, Int.reduceLT, Int.reduceEq, Int.reduceToNat, reduceCtorEq, evL33x0, B33x0, g1, cob_len]
end Go.Proofs.Yteaojpfofifmnaa.PE
/- Logs read: both functions. -/
set_option linter.unusedSimpArgs false
set_option linter.unusedVariables false
set_option maxHeartbeats 8000000
set_option maxRecDepth 20000
namespace Go.Proofs.Yteaojpfofifmnaa.PE
open Go.RowKit

-- find33
theorem run_lFromS (d : Nat) (c : Bool) (b : List UInt8) (hb : b.length < 1099511627776) : ∃ cw, retP (runD tab noExt (d + 9)) 33 [.sl c 1 (cellsOfBytes b)] = some [.sl cw 2 ((lFrom 13 [] b).map Ent.cells)] := by
  have hl := loop_lfS d c b hb 13 [] 0 rfl (by omega) ⟨by simp, fun e he => by cases he⟩ rfl 1099511627775 (by omega)
  simp only [List.drop_zero, List.length_nil, List.map_nil, Int.natCast_zero] at hl
  have ht : List.take (lFrom 13 [] b).length ((lFrom 13 [] b).map Ent.cells) = (lFrom 13 [] b).map Ent.cells := List.take_of_length_le (by simp)
  generalize lFrom 13 [] b = L at hl ht ⊢
  refine ⟨false, ?_⟩
  rw [retP, runD_eq find33 _ _ _ (by simp)]
  simp -implicitDefEqProofs (disch := omega) only [go_sem, Nat.reduceBEq, Nat.reduceAdd, Nat.reduceSub, Nat.reduceMul, Nat.reduceLeDiff, Nat.reduceEqDiff, Nat.reduceLT, Int.reduceNeg, Int.reduceAdd, Int.reduceSub, Int.reduceMul, Int.reduceLE, Int.reduceLT, Int.reduceEq, Int.reduceToNat, reduceCtorEq, elemsOf, elemOf]
  rcases hl with hl | hl
  · try simp -implicitDefEqProofs only [go_sem, Nat.reduceBEq, Nat.reduceAdd, Nat.reduceSub, Nat.reduceMul, Nat.reduceLeDiff, Nat.reduceEqDiff, Nat.reduceLT, Int.reduceNeg, Int.reduceAdd, Int.reduceSub, Int.reduceMul, Int.reduceLE, Int.reduceLT, Int.reduceEq, Int.reduceToNat, reduceCtorEq] at hl
    rw [hl]
    simp -implicitDefEqProofs (disch := omega) only [go_sem, Nat.reduceBEq, Nat.reduceAdd, Nat.reduceSub, Nat.reduceMul, Nat.reduceLeDiff, Nat.reduceEqDiff, Nat.reduceLT, Int.reduceNeg, Int.reduceAdd, Int.reduceSub, Int.reduceMul, Int.reduceLE, Int.reduceLT, Int.reduceEq, Int.reduceToNat, reduceCtorEq, ht]
  · try simp -implicitDefEqProofs only [go_sem, Nat.reduceBEq, Nat.reduceAdd, Nat.reduceSub, Nat.reduceMul, Nat.reduceLeDiff, Nat.reduceEqDiff, Nat.reduceLT, Int.reduceNeg, Int.reduceAdd, Int.reduceSub, Int.reduceMul, Int.reduceLE, Int.reduceLT, Int.reduceEq, Int.reduceToNat, reduceCtorEq] at hl
    rw [hl]
    simp -implicitDefEqProofs (disch := omega) only [go_sem, Nat.reduceBEq, Nat.reduceAdd, Nat.reduceSub, Nat.reduceMul, Nat.reduceLeDiff, Nat.reduceEqDiff, Nat.reduceLT, Int.reduceNeg, Int.reduceAdd, Int.reduceSub, Int.reduceMul, Int.reduceLE, Int.reduceLT, Int.reduceEq, Int.reduceToNat, reduceCtorEq, ht]
theorem Grown.more {fs : List Fd} {id k st : Nat} {h h1 h3 : Heap} {done : List (List V)} {xs : List (List U)} {cells : List V} {x : List U} {js : List Nat} (g : Grown fs id h done xs) (own : OwnR h1 fs cells x js)
    (keep : ∀ j, j < h.length → h1[j]? = h[j]?) (hlen : h.length ≤ h1.length) (e3 : ∀ j, j < h1.length → h3[j]? = h1[j]?) (hb : h3[k]? = some (blkOf fs st (done ++ [cells]))) : ∃ ids, OwnF h3 (.sub fs) (.ref k st 0 (done ++ [cells]).length false) (.sub (xs ++ [x])) ids := by
  obtain ⟨_, ids, z, _⟩ := g.frame (h1 := h3) (fun j hj => (e3 j (by omega)).trans (keep j hj))
  refine ⟨k :: (ids ++ js), ?_⟩
  simp only [OwnF]
  exact ⟨xs ++ [x], rfl, .inr ⟨k, st, false, done ++ [cells], ids ++ js, rfl, hb, rfl, Zip3_app z (Zip3_one (OwnR_frame fs own (fun j hj => e3 j (OwnR_lt fs own j hj))))⟩⟩
-- find29
theorem clipk_Ent (d : Nat) (h : Heap) (m : Nat) (done : List (List V)) (hn : h[0]? = some (.nest m 2 done)) : callX (runD tab noExt (d + 1)) h 2 79 [.ref 0 m 0 m false] = some (.ref 0 m 0 m true, h) := by
  simp only [callX, callK]
  rw [runD_eq find79 _ _ _ (by simp)]
  simp -implicitDefEqProofs (disch := omega) only [go_sem, Nat.reduceBEq, Nat.reduceAdd, Nat.reduceSub, Nat.reduceMul, Nat.reduceLeDiff, Nat.reduceEqDiff, Nat.reduceLT, Int.reduceNeg, Int.reduceAdd, Int.reduceSub, Int.reduceMul, Int.reduceLE, Int.reduceLT, Int.reduceEq, Int.reduceToNat, reduceCtorEq, Bool.true_or, resOk, hn]
theorem loop_lfI (d : Nat) : ∀ (f : Nat) (out : List Ent) (c : Bool) (b : List UInt8) (h : Heap) (done : List (List V)), out.length + f = 13 → b.length < 1099511627776 → LimE out → logOk out = true → Grown fdEntry 0 h done (out.map entU) → ∀ K, f ≤ K →
    ∃ v h' ids, LoopK (runD tab noExt (d + 11)) (drawI (runD tab noExt (d + 11))) [0, 3] [2] L29x0 K [(0, .sl c 1 (cellsOfBytes b)), (3, .ref 0 done.length 0 done.length false)] h = some (.ret, [(2, v)], h') ∧ OwnF h' (.sub fdEntry) v (.sub ((lFrom f out b).map entU)) ids ∧ ids.Nodup
  | 0, out, c, b, h, done, hf, hb, h1, h2, g, K, hK => by
    have := log_len h2
    omega
  | f + 1, out, c, b, h, done, hf, hb, h1, h2, g, K, hK => by
    obtain ⟨K, rfl⟩ : ∃ k', K = k' + 1 := ⟨K - 1, by omega⟩
    have hl12 := log_len h2
    have glen := g.len
    rw [List.length_map] at glen
    obtain ⟨pv, hc, is0, q1, q2, q3⟩ := own_eFrom d c b hb
    obtain ⟨cells, hp, js, kE, k2, k3, k4, k5, k6⟩ := own_callAS (h := h) (args := [.sl c 1 (cellsOfBytes b)]) (by simp only [pureDAs, mapO, pureDA, pureD]) q1 (ownR_mk_Entry (a0 := (eFrom b).1.time) q2) q3 (by rcases own_cases q2 with ⟨cx, rfl⟩ | ⟨id, st, m, clip, rfl⟩ <;> rfl) rfl
    obtain ⟨a0, p1, y1, i1, rfl, hx, rfl, k2'⟩ := ownR_Entry k2
    simp only [List.cons.injEq, U.int.injEq, U.sub.injEq, and_true] at hx
    obtain ⟨rfl, rfl⟩ := hx
    have hw := own_cases k2'
    have hlt := g.lt
    have hn1 : hp[0]? = some (.nest done.length 2 done) := (k5 0 hlt).trans (g.nest (by rfl))
    have hp0 : 0 < hp.length := by omega
    have hn2 : ∀ t, (hp ++ t)[0]? = some (.nest done.length 2 done) := fun t => (List.getElem?_append_left hp0).trans hn1
    have hcl : ∀ x, callX (runD tab noExt (d + 11)) (hp ++ [x]) 2 79 [.ref 0 done.length 0 done.length false] = some (.ref 0 done.length 0 done.length true, hp ++ [x]) := fun x => clipk_Ent (d + 10) _ _ _ (hn2 _)
    have hcl2 : ∀ x y, callX (runD tab noExt (d + 11)) (hp ++ [x, y]) 2 79 [.ref 0 done.length 0 done.length false] = some (.ref 0 done.length 0 done.length true, hp ++ [x, y]) := fun x y => clipk_Ent (d + 10) _ _ _ (hn2 _)
    have keep : ∀ t j, j < h.length → (hp ++ t)[j]? = h[j]? := fun t j hj => by rw [List.getElem?_append_left (by omega), k5 j hj]
    have hsm : done.length + 1 < 4294967296 := by omega
    simp only [lFrom]
    by_cases hn : (eFrom b).2 = 0
    · have g3 : ((eFrom b).2 : Int) = 0 := by omega
      rw [if_pos hn]
      obtain ⟨ids, o1, o2⟩ := (g.frame (keep [.box [.int .i64 (eFrom b).1.time, p1]])).own (n := done.length) (clip := true) rfl
      refine ⟨_, _, ids, ?_, o1, o2⟩
      rw [LoopK_eq]
      rcases hw with ⟨c', rfl⟩ | ⟨id, st, n, clip, rfl⟩ <;> simp -implicitDefEqProofs (disch := omega) only [go_sem, Nat.reduceBEq, Nat.reduceAdd, Nat.reduceSub, Nat.reduceMul, Nat.reduceLeDiff, Nat.reduceEqDiff, Nat.reduceLT, Int.reduceNeg, Int.reduceAdd, Int.reduceSub, Int.reduceMul, Int.reduceLE, Int.reduceLT, Int.reduceEq, Int.reduceToNat, reduceCtorEq, evL29x0, B29x0, evC_draw, evD29x0, E29x0, kE, g3, hn2, hcl, at_end, set_end, List.getElem?_set_self, List.set_cons_zero]
    · have g3 : (((eFrom b).2 : Int) = 0) = False := eq_false (by omega)
      have hle := eFrom_le b
      rw [if_neg hn]
      have hlim := lim_snoc h1 hl12 (eFrom_lim b)
      have hbk : (hp ++ [Blk.box [.int .i64 (eFrom b).1.time, p1], .nest 0 2 (done ++ [[.int .i64 (eFrom b).1.time, p1]])])[hp.length + 1]? = some (blkOf fdEntry 0 (done ++ [[.int .i64 (eFrom b).1.time, p1]])) := by rw [at_end_add]; rfl
      obtain ⟨ids, o1⟩ := g.more k2 k5 k6 (fun j hj => List.getElem?_append_left hj) hbk
      obtain ⟨q, e1, e2⟩ := OwnF_pure (.sub fdEntry) 6 (by decide) o1
      have e3 := pureDA_of o1 e1
      rw [show out.map entU ++ [[U.int (eFrom b).1.time, U.sub ((eFrom b).1.ws.map wrU)]] = (out ++ [(eFrom b).1]).map entU by rw [List.map_append]; rfl] at e2
      obtain ⟨cl, l2, rfl, hl2⟩ := ents_each e2
      have hlim2 : LimE l2 := ents_lim (by rw [← hl2]; exact ents_len hlim)
      obtain ⟨_, x2, x3⟩ := hlim2.fine
      have kL := call_bool (h := hp ++ [Blk.box [.int .i64 (eFrom b).1.time, p1], .nest 0 2 (done ++ [[.int .i64 (eFrom b).1.time, p1]])]) (args := [V.ref (hp.length + 1) 0 0 (done ++ [[.int .i64 (eFrom b).1.time, p1]]).length false]) (by simp only [pureDAs, mapO, e3]) (run_logI (d + 2) cl l2 x3 x2)
      rw [← logOk_vs hl2] at kL
      simp only [List.length_append, List.length_cons, List.length_nil, Nat.zero_add] at kL
      cases ho : logOk (out ++ [(eFrom b).1])
      · rw [ho] at kL
        obtain ⟨ids, o1, o2⟩ := (g.frame (keep [.box [.int .i64 (eFrom b).1.time, p1], .nest 0 2 (done ++ [[.int .i64 (eFrom b).1.time, p1]])])).own (n := done.length) (clip := true) rfl
        simp only [Bool.false_eq_true, if_false]
        refine ⟨_, _, ids, ?_, o1, o2⟩
        rw [LoopK_eq]
        rcases hw with ⟨c', rfl⟩ | ⟨id, st, n, clip, rfl⟩ <;> simp -implicitDefEqProofs (disch := omega) only [go_sem, Nat.reduceBEq, Nat.reduceAdd, Nat.reduceSub, Nat.reduceMul, Nat.reduceLeDiff, Nat.reduceEqDiff, Nat.reduceLT, Int.reduceNeg, Int.reduceAdd, Int.reduceSub, Int.reduceMul, Int.reduceLE, Int.reduceLT, Int.reduceEq, Int.reduceToNat, reduceCtorEq, evL29x0, B29x0, evC_draw, evD29x0, E29x0, kE, kL, g3, hn2, hcl, hcl2, hsm, at_end, set_end, List.getElem?_set_self, List.set_cons_zero, elemsN, elemN, listN, appendN, okN, small]
      · rw [ho] at kL
        simp only [if_true]
        have hle' : (eFrom b).2 ≤ b.length := hle
        have htk : List.take (b.length - (eFrom b).2) (cellsOfBytes (b.drop (eFrom b).2)) = cellsOfBytes (b.drop (eFrom b).2) := List.take_of_length_le (by rw [cob_len, List.length_drop]; omega)
        have g4 : ((eFrom b).2 : Int) ≤ b.length := by omega
        have g' : Grown fdEntry 0 ((hp ++ [Blk.box [V.int .i64 (eFrom b).1.time, p1], Blk.nest 0 2 (done ++ [[V.int .i64 (eFrom b).1.time, p1]])]).set 0 (Blk.nest (done.length + 1) 2 (done ++ [[V.int .i64 (eFrom b).1.time, p1]]))) (done ++ [[V.int .i64 (eFrom b).1.time, p1]]) ((out ++ [(eFrom b).1]).map entU) := by
          rw [List.map_append]
          exact g.add (h1 := hp ++ [Blk.box [V.int .i64 (eFrom b).1.time, p1], Blk.nest 0 2 (done ++ [[V.int .i64 (eFrom b).1.time, p1]])]) (OwnR_frame fdEntry k2 (fun j hj => List.getElem?_append_left (OwnR_lt fdEntry k2 j hj))) k3 k4 (keep _) rfl
        obtain ⟨v, h', ids, r1, r2, r3⟩ := loop_lfI d f (out ++ [(eFrom b).1]) c (b.drop (eFrom b).2) _ _ (by simp; omega) (by rw [List.length_drop]; omega) hlim ho g' K (by omega)
        refine ⟨v, h', ids, ?_, r2, r3⟩
        rw [← r1, LoopK_eq]
        rcases hw with ⟨c', rfl⟩ | ⟨id, st, n, clip, rfl⟩ <;> simp -implicitDefEqProofs (disch := omega) only [go_sem, Nat.reduceBEq, Nat.reduceAdd, Nat.reduceSub, Nat.reduceMul, Nat.reduceLeDiff, Nat.reduceEqDiff, Nat.reduceLT, Int.reduceNeg, Int.reduceAdd, Int.reduceSub, Int.reduceMul, Int.reduceLE, Int.reduceLT, Int.reduceEq, Int.reduceToNat, reduceCtorEq, evL29x0, B29x0, evC_draw, evD29x0, E29x0, evC_draw, evD29x1, E29x1, kE, kL, g3, g4, hn2, hcl, hcl2, hsm, cob_len, cob_drop, htk, at_end, set_end, List.getElem?_set_self, List.set_cons_zero, elemsN, elemN, listN, appendN, okN, small]
end Go.Proofs.Yteaojpfofifmnaa.PE
/- Logs read: what both functions come to, for the exact statement. -/
set_option linter.unusedSimpArgs false
set_option linter.unusedVariables false
set_option maxHeartbeats 4000000
set_option maxRecDepth 20000
namespace Go.Proofs.Yteaojpfofifmnaa.PE
open Go.RowKit

theorem lim_nil : LimE ([] : List Ent) := ⟨by simp, fun e he => by cases he⟩
-- find29
theorem own_lFrom (d : Nat) (c : Bool) (b : List UInt8) (hb : b.length < 1099511627776) : ∃ v hc ids, runD tab noExt (d + 12) 29 [.sl c 1 (cellsOfBytes b)] [] = some ([v], hc) ∧ OwnF hc (.sub fdEntry) v (.sub ((lFrom 13 [] b).map entU)) ids ∧ ids.Nodup := by
  obtain ⟨v, h', ids, r1, r2, r3⟩ := loop_lfI d 13 [] c b [.nest 0 2 []] [] rfl hb lim_nil rfl (Grown.start rfl) 1099511627775 (by omega)
  refine ⟨v, h', ids, ?_, r2, r3⟩
  simp only [List.length_nil] at r1
  rw [runD_eq find29 _ _ _ (by simp)]
  simp -implicitDefEqProofs (disch := omega) only [go_sem, Nat.reduceBEq, Nat.reduceAdd, Nat.reduceSub, Nat.reduceMul, Nat.reduceLeDiff, Nat.reduceEqDiff, Nat.reduceLT, Int.reduceNeg, Int.reduceAdd, Int.reduceSub, Int.reduceMul, Int.reduceLE, Int.reduceLT, Int.reduceEq, Int.reduceToNat, reduceCtorEq]
  try simp -implicitDefEqProofs only [go_sem, Nat.reduceBEq, Nat.reduceAdd, Nat.reduceSub, Nat.reduceMul, Nat.reduceLeDiff, Nat.reduceEqDiff, Nat.reduceLT, Int.reduceNeg, Int.reduceAdd, Int.reduceSub, Int.reduceMul, Int.reduceLE, Int.reduceLT, Int.reduceEq, Int.reduceToNat, reduceCtorEq] at r1
  rw [r1]
  simp -implicitDefEqProofs (disch := omega) only [go_sem, Nat.reduceBEq, Nat.reduceAdd, Nat.reduceSub, Nat.reduceMul, Nat.reduceLeDiff, Nat.reduceEqDiff, Nat.reduceLT, Int.reduceNeg, Int.reduceAdd, Int.reduceSub, Int.reduceMul, Int.reduceLE, Int.reduceLT, Int.reduceEq, Int.reduceToNat, reduceCtorEq]
end Go.Proofs.Yteaojpfofifmnaa.PE
/- A log that is read is written back as the bytes that it took, and these are read as that log. -/
set_option linter.unusedSimpArgs false
set_option linter.unusedVariables false
namespace Go.Proofs.Yteaojpfofifmnaa.PE
open Go.RowKit

/-- How many bytes are read as entries. -/
def lN : Nat → List Ent → List UInt8 → Nat
  | 0, _, _ => 0
  | f + 1, out, b => if (eFrom b).2 = 0 then 0 else if logOk (out ++ [(eFrom b).1]) = true then (eFrom b).2 + lN f (out ++ [(eFrom b).1]) (b.drop (eFrom b).2) else 0
theorem lN_le : ∀ (f : Nat) (out : List Ent) (b : List UInt8), lN f out b ≤ b.length
  | 0, out, b => Nat.zero_le _
  | f + 1, out, b => by
    simp only [lN]
    split
    · omega
    · split
      · have h1 := lN_le f (out ++ [(eFrom b).1]) (b.drop (eFrom b).2)
        have h2 := eFrom_le b
        rw [List.length_drop] at h1
        omega
      · omega
theorem lFrom_bytes : ∀ (f : Nat) (out : List Ent) (b : List UInt8), (lFrom f out b).foldl entF [] = out.foldl entF [] ++ toI (b.take (lN f out b))
  | 0, out, b => by simp [lFrom, lN, toI]
  | f + 1, out, b => by
    simp only [lFrom, lN]
    split
    · simp [toI]
    · rename_i hn
      split
      · obtain ⟨g1, g2, g3, g4⟩ := eFrom_bytes hn
        rw [lFrom_bytes f, List.foldl_append, take_add', toI_app, g3, entBytes, if_pos g1]
        simp only [List.foldl_cons, List.foldl_nil, entF, List.append_assoc]
      · simp [toI]
theorem unF_take {b body : List UInt8} {n m : Nat} (h : unF b = some (body, n)) (hm : n ≤ m) : unF (b.take m) = some (body, n) := by
  have hu := unF_some h
  match b, h with
  | [], h => cases h
  | [x], h => cases h
  | x :: y :: r, h =>
    obtain ⟨m, rfl⟩ : ∃ k, m = k + 2 := ⟨m - 2, by omega⟩
    have e : (x :: y :: r).take (m + 2) = x :: y :: r.take m := rfl
    rw [e]
    rw [unF] at h ⊢
    generalize hN : 256 * x.toNat + y.toNat = N at h
    split at h
    · cases h
    rename_i h1
    split at h
    · rename_i h2
      simp only [Option.some.injEq, Prod.mk.injEq] at h
      obtain ⟨rfl, rfl⟩ := h
      have hNm : N + 1 ≤ m := by omega
      have e1 : ¬ (r.take m).length < N + 1 := by rw [List.length_take]; omega
      have e2 : (r.take m).take N = r.take N := by rw [List.take_take, Nat.min_eq_left (by omega)]
      have e3 : (r.take m).getD N 0 = r.getD N 0 := by rw [List.getD_eq_getElem?_getD, List.getD_eq_getElem?_getD, List.getElem?_take_of_lt (by omega)]
      rw [if_neg e1, e2, e3, if_pos h2]
    · cases h
theorem eFrom_take {b : List UInt8} {m : Nat} (hn : (eFrom b).2 ≠ 0) (hm : (eFrom b).2 ≤ m) : eFrom (b.take m) = eFrom b := by
  obtain ⟨body, h1, h2⟩ := eFrom_some hn
  have h3 := unF_take h1 hm
  have e : eFrom b = ((eFrom b).1, (eFrom b).2) := rfl
  rw [e]
  unfold eFrom at h3 ⊢
  rw [h3]
  simp only
  rw [h2]
  rfl
theorem lFrom_take : ∀ (f : Nat) (out : List Ent) (b : List UInt8) (m : Nat), lN f out b ≤ m → m ≤ lN f out b → lFrom f out (b.take m) = lFrom f out b
  | 0, out, b, m, _, _ => rfl
  | f + 1, out, b, m, h1, h2 => by
    simp only [lN] at h1 h2
    by_cases hn : (eFrom b).2 = 0
    · rw [if_pos hn] at h2
      have : m = 0 := by omega
      subst this
      rw [List.take_zero, lFrom_nil]
      simp only [lFrom, if_pos hn]
    · rw [if_neg hn] at h1 h2
      by_cases ho : logOk (out ++ [(eFrom b).1]) = true
      · rw [if_pos ho] at h1 h2
        have he := eFrom_take (b := b) (m := m) hn (by omega)
        simp only [lFrom, he, if_neg hn, if_pos ho]
        rw [List.drop_take]
        exact lFrom_take f _ _ _ (by omega) (by omega)
      · rw [if_neg ho] at h2
        have : m = 0 := by omega
        subst this
        rw [List.take_zero, lFrom_nil]
        simp only [lFrom, if_neg hn, if_neg ho]
theorem lFrom_len : ∀ (f : Nat) (out : List Ent) (b : List UInt8), out.length ≤ (lFrom f out b).length
  | 0, out, b => Nat.le_refl _
  | f + 1, out, b => by
    simp only [lFrom]
    split
    · omega
    · split
      · have := lFrom_len f (out ++ [(eFrom b).1]) (b.drop (eFrom b).2)
        simp only [List.length_append, List.length_cons, List.length_nil] at this
        omega
      · omega
theorem lFrom_empty (b : List UInt8) : (lFrom 13 [] b).length = 0 ↔ (eFrom b).2 = 0 := by
  constructor
  · intro h
    by_cases hn : (eFrom b).2 = 0
    · exact hn
    · obtain ⟨g1, _⟩ := eFrom_bytes hn
      rw [show (13 : Nat) = 12 + 1 from rfl, lFrom, if_neg hn, List.nil_append, if_pos g1] at h
      have := lFrom_len 12 [(eFrom b).1] (b.drop (eFrom b).2)
      simp only [List.length_cons, List.length_nil] at this
      omega
  · intro hn
    rw [show (13 : Nat) = 12 + 1 from rfl, lFrom, if_pos hn]
    rfl
/-- What is written of a log that was read. -/
theorem back_log (b : List UInt8) : ∃ pk : List UInt8, pk = b.take pk.length ∧ pk.length ≤ b.length ∧ logBytes (lFrom 13 [] b) = toI pk ∧ lFrom 13 [] pk = lFrom 13 [] b := by
  have hle := lN_le 13 [] b
  have hl : (b.take (lN 13 [] b)).length = lN 13 [] b := by rw [List.length_take]; omega
  refine ⟨b.take (lN 13 [] b), by rw [hl], by omega, ?_, lFrom_take 13 [] b _ (Nat.le_refl _) (Nat.le_refl _)⟩
  have h1 := lFrom_bytes 13 [] b
  obtain ⟨_, ok⟩ := lFrom_ok 13 [] b lim_nil rfl
  rw [logBytes, if_pos ok, h1]
  rfl
end Go.Proofs.Yteaojpfofifmnaa.PE
/- The reader is opened; a fixed answer. -/
set_option linter.unusedSimpArgs false
set_option linter.unusedVariables false
set_option maxHeartbeats 4000000
namespace Go.Proofs.Yteaojpfofifmnaa.PE
open Go.RowKit

theorem run_alive (d : Nat) : retP (runD tab noExt (d + 5)) 26 [] = some [.bool true] := by
  rw [retP, runD_eq find26 _ _ _ (by simp)]
  simp -implicitDefEqProofs (disch := omega) only [go_sem, Nat.reduceBEq, Nat.reduceAdd, Nat.reduceSub, Nat.reduceMul, Nat.reduceLeDiff, Nat.reduceEqDiff, Nat.reduceLT, Int.reduceNeg, Int.reduceAdd, Int.reduceSub, Int.reduceMul, Int.reduceLE, Int.reduceLT, Int.reduceEq, Int.reduceToNat, reduceCtorEq, run_ValueOk]
  have h1 : Val.ok ⟨1, 3, ⟨#[]⟩⟩ = true := rfl
  have h2 : Val.ok ⟨9, 0, ⟨#[]⟩⟩ = false := rfl
  simp -implicitDefEqProofs only [go_sem, Nat.reduceBEq, Nat.reduceAdd, Nat.reduceSub, Nat.reduceMul, Nat.reduceLeDiff, Nat.reduceEqDiff, Nat.reduceLT, Int.reduceNeg, Int.reduceAdd, Int.reduceSub, Int.reduceMul, Int.reduceLE, Int.reduceLT, Int.reduceEq, Int.reduceToNat, reduceCtorEq, h1, h2, run_ValueOk]

end Go.Proofs.Yteaojpfofifmnaa.PE
/- Logs that are the same. -/
set_option linter.unusedSimpArgs false
set_option linter.unusedVariables false
set_option maxHeartbeats 4000000
set_option maxRecDepth 20000
namespace Go.Proofs.Yteaojpfofifmnaa.PE
open Go.RowKit

theorem wrU_parts {a b : Wr} (h : wrU a = wrU b) : b.key = a.key ∧ b.row.vs = a.row.vs ∧ b.gone = a.gone := by
  simp only [wrU, List.cons.injEq, U.int.injEq, U.sub.injEq, U.bool.injEq, and_true] at h
  obtain ⟨h1, h2, h3⟩ := h
  exact ⟨h1.symm, (by simpa using (map_same (g := id) (fun _ _ => valU_inj) h2).symm), h3.symm⟩
theorem entU_parts {a b : Ent} (h : entU a = entU b) : b.time = a.time ∧ a.ws.map wrU = b.ws.map wrU := by
  simp only [entU, List.cons.injEq, U.int.injEq, U.sub.injEq, and_true] at h
  exact ⟨h.1.symm, h.2⟩
theorem zip_at {α β : Type} {f : α → β} {a b : List α} (h : a.map f = b.map f) {i : Nat} {x : α × α} (h1 : a[i]? = some x.1) (h2 : b[i]? = some x.2) : f x.1 = f x.2 := by
  have h3 : (a.map f)[i]? = some (f x.1) := by simp [h1]
  have h4 : (b.map f)[i]? = some (f x.2) := by simp [h2]
  rw [h, h4] at h3
  exact (Option.some.inj h3).symm
theorem all_yes {α : Type} (l : List α) : l.all (fun _ => true) = true := by simp
theorem loop_sameWs (d : Nat) (c c' : Bool) (a b : List Wr) (hs : a.length < 1099511627776) (hsa : ∀ w ∈ a, w.row.vs.length < 1099511627776) (he : a.map wrU = b.map wrU) (hlen : a.length = b.length) (K : Nat) (hK : (a.zip b).length ≤ K) : LoopS (runD tab noExt (d + 1)) (drawI (runD tab noExt (d + 1))) [0, 1, 5] [4] L78x0 ([] : Heap).length K [(0, .sl c 3 (a.map Wr.cells)), (1, .sl c' 3 (b.map Wr.cells)), (5, .int .i64 0)] [] = if (a.zip b).all (fun _ => true) then (some (.exit 0, [(4, .undef)], []) : Out) else (some (.ret, [(4, .bool false)], []) : Out) := by
  have key := LoopS_all (run := (runD tab noExt (d + 1))) (draw := drawI (runD tab noExt (d + 1))) (live := [0, 1, 5]) (out := [4]) (c := L78x0) (n0 := ([] : Heap).length) (a.zip b) (fun _ => true) (fun (i : Nat) => [(0, .sl c 3 (a.map Wr.cells)), (1, .sl c' 3 (b.map Wr.cells)), (5, .int .i64 i)]) [] (some (.exit 0, [(4, .undef)], []) : Out) (some (.ret, [(4, .bool false)], []) : Out) (fun K => ?_) (fun (i : Nat) (x : Wr × Wr) K hi hx => ?_) K hK
  · simp only [Int.natCast_zero] at key
    exact key
  · rw [LoopS_eq]
    simp -implicitDefEqProofs only [go_sem, Nat.reduceBEq, Nat.reduceAdd, Nat.reduceSub, Nat.reduceMul, Nat.reduceLeDiff, Nat.reduceEqDiff, Nat.reduceLT, Int.reduceNeg, Int.reduceAdd, Int.reduceSub, Int.reduceMul, Int.reduceLE, Int.reduceLT, Int.reduceEq, Int.reduceToNat, reduceCtorEq, evL78x0, B78x0, Int.lt_irrefl, List.length_zip, hlen, Nat.min_self, evC_draw, evD78x0, E78x0, Wr.cells, Row.v]
  · obtain ⟨g1, g2⟩ := List.getElem?_zip_eq_some.1 hx; rw [List.length_zip, hlen, Nat.min_self] at hi; obtain ⟨e1, e2, e3⟩ := wrU_parts (zip_at he g1 g2); have hss := run_sameRow d x.1.row.clip x.2.row.clip x.1.row.vs x.2.row.vs (hsa _ (List.mem_of_getElem? g1)); rw [e2] at hss; clear he
    rw [LoopS_eq]
    simp -implicitDefEqProofs (disch := omega) only [go_sem, Nat.reduceBEq, Nat.reduceAdd, Nat.reduceSub, Nat.reduceMul, Nat.reduceLeDiff, Nat.reduceEqDiff, Nat.reduceLT, Int.reduceNeg, Int.reduceAdd, Int.reduceSub, Int.reduceMul, Int.reduceLE, Int.reduceLT, Int.reduceEq, Int.reduceToNat, reduceCtorEq, evL78x0, B78x0, hi, hx, IntWalk.i64_in, List.length_zip, hlen, Nat.min_self, evC_draw, evD78x0, E78x0, Wr.cells, Row.v, *]
    repeat' ((first | rw [GuardI_ndec] | rw [CondC_ndec] | rw [GuardQ_ndec] | rw [GuardI_dec] | rw [CondC_dec] | rw [GuardQ_dec] | rw [GuardI_nby] | rw [CondC_nby] | rw [GuardQ_nby] | rw [GuardQ_by] | rw [GuardI_by] | rw [CondC_by]) <;> split <;> simp -implicitDefEqProofs (disch := omega) only [go_sem, Nat.reduceBEq, Nat.reduceAdd, Nat.reduceSub, Nat.reduceMul, Nat.reduceLeDiff, Nat.reduceEqDiff, Nat.reduceLT, Int.reduceNeg, Int.reduceAdd, Int.reduceSub, Int.reduceMul, Int.reduceLE, Int.reduceLT, Int.reduceEq, Int.reduceToNat, reduceCtorEq, hi, hx, IntWalk.i64_in, List.length_zip, hlen, Nat.min_self, evC_draw, evD78x0, E78x0, Wr.cells, Row.v, *, *])
    all_goals first | rfl | (simp_all []; done) | (simp_all []; omega)
-- find78
theorem run_sameWs (d : Nat) (c c' : Bool) (a b : List Wr) (hs : a.length < 1099511627776) (hsa : ∀ w ∈ a, w.row.vs.length < 1099511627776) (he : a.map wrU = b.map wrU) : retP (runD tab noExt (d + 2)) 78 [.sl c 3 (a.map Wr.cells), .sl c' 3 (b.map Wr.cells)] = some [.bool true] := by
  have hlen : a.length = b.length := by simpa using congrArg List.length he
  have hl := loop_sameWs d c c' a b hs hsa he hlen 1099511627775 (by simp; omega)
  rw [if_pos (all_yes _)] at hl
  rw [retP, runD_eq find78 _ _ _ (by simp)]
  simp -implicitDefEqProofs only [go_sem, Nat.reduceBEq, Nat.reduceAdd, Nat.reduceSub, Nat.reduceMul, Nat.reduceLeDiff, Nat.reduceEqDiff, Nat.reduceLT, Int.reduceNeg, Int.reduceAdd, Int.reduceSub, Int.reduceMul, Int.reduceLE, Int.reduceLT, Int.reduceEq, Int.reduceToNat, reduceCtorEq, hlen] at hl ⊢
  rw [hl]
  simp -implicitDefEqProofs only [go_sem, Nat.reduceBEq, Nat.reduceAdd, Nat.reduceSub, Nat.reduceMul, Nat.reduceLeDiff, Nat.reduceEqDiff, Nat.reduceLT, Int.reduceNeg, Int.reduceAdd, Int.reduceSub, Int.reduceMul, Int.reduceLE, Int.reduceLT, Int.reduceEq, Int.reduceToNat, reduceCtorEq]
theorem loop_sameLog (d : Nat) (c c' : Bool) (a b : List Ent) (hs : a.length < 1099511627776) (hsa : LimE a) (he : a.map entU = b.map entU) (hlen : a.length = b.length) (K : Nat) (hK : (a.zip b).length ≤ K) : LoopS (runD tab noExt (d + 2)) (drawI (runD tab noExt (d + 2))) [0, 1, 5] [4] L28x0 ([] : Heap).length K [(0, .sl c 2 (a.map Ent.cells)), (1, .sl c' 2 (b.map Ent.cells)), (5, .int .i64 0)] [] = if (a.zip b).all (fun _ => true) then (some (.exit 0, [(4, .undef)], []) : Out) else (some (.ret, [(4, .bool false)], []) : Out) := by
  have key := LoopS_all (run := (runD tab noExt (d + 2))) (draw := drawI (runD tab noExt (d + 2))) (live := [0, 1, 5]) (out := [4]) (c := L28x0) (n0 := ([] : Heap).length) (a.zip b) (fun _ => true) (fun (i : Nat) => [(0, .sl c 2 (a.map Ent.cells)), (1, .sl c' 2 (b.map Ent.cells)), (5, .int .i64 i)]) [] (some (.exit 0, [(4, .undef)], []) : Out) (some (.ret, [(4, .bool false)], []) : Out) (fun K => ?_) (fun (i : Nat) (x : Ent × Ent) K hi hx => ?_) K hK
  · simp only [Int.natCast_zero] at key
    exact key
  · rw [LoopS_eq]
    simp -implicitDefEqProofs only [go_sem, Nat.reduceBEq, Nat.reduceAdd, Nat.reduceSub, Nat.reduceMul, Nat.reduceLeDiff, Nat.reduceEqDiff, Nat.reduceLT, Int.reduceNeg, Int.reduceAdd, Int.reduceSub, Int.reduceMul, Int.reduceLE, Int.reduceLT, Int.reduceEq, Int.reduceToNat, reduceCtorEq, evL28x0, B28x0, Int.lt_irrefl, List.length_zip, hlen, Nat.min_self, evC_draw, evD28x0, E28x0, Ent.cells, Ent.v]
  · obtain ⟨g1, g2⟩ := List.getElem?_zip_eq_some.1 hx; rw [List.length_zip, hlen, Nat.min_self] at hi; obtain ⟨e1, e2⟩ := entU_parts (zip_at he g1 g2); have hl2 := hsa.2 _ (List.mem_of_getElem? g1); have hss := run_sameWs d x.1.wc x.2.wc x.1.ws x.2.ws (by omega) (fun w hw => by have := (hl2.2 w hw).1; omega) e2; clear he e2 hl2
    rw [LoopS_eq]
    simp -implicitDefEqProofs (disch := omega) only [go_sem, Nat.reduceBEq, Nat.reduceAdd, Nat.reduceSub, Nat.reduceMul, Nat.reduceLeDiff, Nat.reduceEqDiff, Nat.reduceLT, Int.reduceNeg, Int.reduceAdd, Int.reduceSub, Int.reduceMul, Int.reduceLE, Int.reduceLT, Int.reduceEq, Int.reduceToNat, reduceCtorEq, evL28x0, B28x0, hi, hx, IntWalk.i64_in, List.length_zip, hlen, Nat.min_self, evC_draw, evD28x0, E28x0, Ent.cells, Ent.v, *]
    repeat' ((first | rw [GuardI_ndec] | rw [CondC_ndec] | rw [GuardQ_ndec] | rw [GuardI_dec] | rw [CondC_dec] | rw [GuardQ_dec] | rw [GuardI_nby] | rw [CondC_nby] | rw [GuardQ_nby] | rw [GuardQ_by] | rw [GuardI_by] | rw [CondC_by]) <;> split <;> simp -implicitDefEqProofs (disch := omega) only [go_sem, Nat.reduceBEq, Nat.reduceAdd, Nat.reduceSub, Nat.reduceMul, Nat.reduceLeDiff, Nat.reduceEqDiff, Nat.reduceLT, Int.reduceNeg, Int.reduceAdd, Int.reduceSub, Int.reduceMul, Int.reduceLE, Int.reduceLT, Int.reduceEq, Int.reduceToNat, reduceCtorEq, hi, hx, IntWalk.i64_in, List.length_zip, hlen, Nat.min_self, evC_draw, evD28x0, E28x0, Ent.cells, Ent.v, *, *])
    all_goals first | rfl | (simp_all []; done) | (simp_all []; omega)
-- find28
theorem run_sameLog (d : Nat) (c c' : Bool) (a b : List Ent) (hsa : LimE a) (he : a.map entU = b.map entU) : retP (runD tab noExt (d + 3)) 28 [.sl c 2 (a.map Ent.cells), .sl c' 2 (b.map Ent.cells)] = some [.bool true] := by
  have hlen : a.length = b.length := by simpa using congrArg List.length he
  have hs := hsa.1
  have hl := loop_sameLog d c c' a b (by omega) hsa he hlen 1099511627775 (by simp; omega)
  rw [if_pos (all_yes _)] at hl
  rw [retP, runD_eq find28 _ _ _ (by simp)]
  simp -implicitDefEqProofs only [go_sem, Nat.reduceBEq, Nat.reduceAdd, Nat.reduceSub, Nat.reduceMul, Nat.reduceLeDiff, Nat.reduceEqDiff, Nat.reduceLT, Int.reduceNeg, Int.reduceAdd, Int.reduceSub, Int.reduceMul, Int.reduceLE, Int.reduceLT, Int.reduceEq, Int.reduceToNat, reduceCtorEq, hlen] at hl ⊢
  rw [hl]
  simp -implicitDefEqProofs only [go_sem, Nat.reduceBEq, Nat.reduceAdd, Nat.reduceSub, Nat.reduceMul, Nat.reduceLeDiff, Nat.reduceEqDiff, Nat.reduceLT, Int.reduceNeg, Int.reduceAdd, Int.reduceSub, Int.reduceMul, Int.reduceLE, Int.reduceLT, Int.reduceEq, Int.reduceToNat, reduceCtorEq]
end Go.Proofs.Yteaojpfofifmnaa.PE
/- Bytes are read in one way. -/
set_option linter.unusedSimpArgs false
set_option linter.unusedVariables false
set_option maxHeartbeats 8000000
set_option maxRecDepth 20000
namespace Go.Proofs.Yteaojpfofifmnaa.PE
open Go.RowKit

theorem cob_same {l : List Int} {p : List UInt8} (h : l = toI p) : u8s l = cellsOfBytes p := by rw [h, cob_u8s]
theorem bytes_of {l : List Int} {q : V} (k : PurF (.sub fdByte) q (.sub (byU l))) : ∃ c, q = .sl c 1 (u8s l) := by
  obtain ⟨c, ct, rfl, hz⟩ := purS_Byte k
  obtain ⟨xs, rfl, h2⟩ := typ_of (f := fun n : Int => [V.int .u8 n]) (g := fun n : Int => [U.int n]) (fun c x hr => by
    obtain ⟨a, rfl, rfl⟩ := purR_Byte hr
    exact ⟨a, rfl, rfl⟩) hz
  have : l = xs := by
    have h3 : l.map (fun n : Int => [U.int n]) = xs.map (fun n : Int => [U.int n]) := h2
    refine (List.map_inj_right (fun x y hxy => ?_)).1 h3
    simpa using hxy
  exact ⟨c, by rw [this]; rfl⟩
theorem run_lFromI (d : Nat) (c : Bool) (b : List UInt8) (hb : b.length < 1099511627776) : ∃ (cl : Bool) (l : List Ent), retP (runD tab noExt (d + 12)) 29 [.sl c 1 (cellsOfBytes b)] = some [.sl cl 2 (l.map Ent.cells)] ∧ l.map entU = (lFrom 13 [] b).map entU := by
  obtain ⟨v, hc, ids, r, o, _⟩ := own_lFrom d c b hb
  obtain ⟨q, e, g⟩ := retP_own r o (by decide)
  obtain ⟨cl, l, rfl, h⟩ := ents_each g
  exact ⟨cl, l, e, h.symm⟩
theorem run_LogBytesI (d : Nat) (c : Bool) (l : List Ent) (h1 : LimE l) : ∃ cb, retP (runD tab noExt (d + 10)) 30 [.sl c 2 (l.map Ent.cells)] = some [.sl cb 1 (u8s (logBytes l))] := by
  obtain ⟨v, hc, ids, r, o, _⟩ := own_LogBytes d c l h1
  obtain ⟨q, e, g⟩ := retP_own r o (by decide)
  obtain ⟨cb, rfl⟩ := bytes_of g
  exact ⟨cb, e⟩
theorem run_EntryBytesI (d : Nat) (e : Ent) (h1 : LimE [e]) : ∃ cb, retP (runD tab noExt (d + 10)) 18 [.agg e.cells] = some [.sl cb 1 (u8s (entBytes e))] := by
  obtain ⟨v, hc, ids, r, o, _⟩ := own_EntryBytes d e h1
  obtain ⟨q, e, g⟩ := retP_own r o (by decide)
  obtain ⟨cb, rfl⟩ := bytes_of g
  exact ⟨cb, e⟩
theorem run_eFromI (d : Nat) (c : Bool) (b : List UInt8) (hb : b.length < 1099511627776) : ∃ e : Ent, retP (runD tab noExt (d + 11)) 27 [.sl c 1 (cellsOfBytes b)] = some [.agg e.cells, .int .i64 (eFrom b).2] ∧ entU e = entU (eFrom b).1 := by
  obtain ⟨v, hc, ids, r, o, _⟩ := own_eFrom d c b hb
  obtain ⟨q, e1, e2⟩ := OwnF_pure (.sub fdWrite) 6 (by decide) o
  have e3 := pureDA_of o e1
  obtain ⟨cl, ws, rfl, h⟩ := wrs_each e2
  refine ⟨⟨(eFrom b).1.time, cl, ws⟩, ?_, by simp only [entU, h]⟩
  unfold retP
  rw [r, PureR_some]
  have hA : pureAs hc [.agg [.int .i64 (eFrom b).1.time, v], .int .i64 (eFrom b).2] = none ∨ pureAs hc [.agg [.int .i64 (eFrom b).1.time, v], .int .i64 (eFrom b).2] = some [.agg [.int .i64 (eFrom b).1.time, .sl cl 3 (ws.map Wr.cells)], .int .i64 (eFrom b).2] := by
    simp only [OwnF] at o
    obtain ⟨xs, e4, ⟨c, rfl, _⟩ | ⟨id, st, clip, cont, r, rfl, hb, _⟩⟩ := o
    · right
      simp only [pureD, Option.some.injEq] at e1
      simp only [pureAs, pureA, pures, pureC, Option.map_some, e1]
    · left
      have hd : fdWrite.any Fd.deep = true := rfl
      simp only [blkOf, hd, if_true] at hb
      simp only [pureAs, pureA, pures, pureC, hb, Option.map_none]
  rcases hA with hA | hA
  · rw [hA, OrD_none]
    simp only [pureDAs, mapO, pureDA_agg, pureDA_int, pureD_intv, e1, Option.map_some, Ent.cells, Ent.v]
  · rw [hA, OrD_some]
    rfl
-- find35
theorem run_ValueBytesI (d : Nat) (v : Val) (h : v.ok = true) : retP (runD tab noExt (d + 4)) 35 [.agg v.cells] = some [.sl true 1 (u8s v.bytes)] := by
  have hv := run_vbytesI (d + 2) v h
  have hl := bytes_len h
  have hc := run_clipB (d + 2) false (u8s v.bytes) (by rw [u8s_len]; omega)
  have ho := run_ok d v.kind v.n v.s
  simp only [Val.eta, h] at ho
  simp only [Val.cells] at hv
  rw [retP, runD_eq find35 _ _ _ (by simp)]
  simp -implicitDefEqProofs (disch := omega) only [go_sem, Nat.reduceBEq, Nat.reduceAdd, Nat.reduceSub, Nat.reduceMul, Nat.reduceLeDiff, Nat.reduceEqDiff, Nat.reduceLT, Int.reduceNeg, Int.reduceAdd, Int.reduceSub, Int.reduceMul, Int.reduceLE, Int.reduceLT, Int.reduceEq, Int.reduceToNat, reduceCtorEq, Val.cells, ho, hv, hc]
end Go.Proofs.Yteaojpfofifmnaa.PE
/- The law of bytes that are read. -/
set_option linter.unusedSimpArgs false
set_option linter.unusedVariables false
set_option maxHeartbeats 8000000
set_option maxRecDepth 20000
namespace Go.Proofs.Yteaojpfofifmnaa.PE
open Go.RowKit

-- find5
theorem law_RoadsBytes (b : List UInt8) (hl : b.length ≤ maxLen) : ∃ d h1, runD tab noExt d 5 [.sl false 1 (cellsOfBytes b)] [] = some ([.bool true], h1) := by
  refine ⟨61, ?_⟩
  rw [runD_eq find5 _ _ _ (by simp)]
  have ha := run_alive 55
  by_cases h0 : (2147483647 : Int) < b.length
  · simp -implicitDefEqProofs (disch := omega) only [go_sem, Nat.reduceBEq, Nat.reduceAdd, Nat.reduceSub, Nat.reduceMul, Nat.reduceLeDiff, Nat.reduceEqDiff, Nat.reduceLT, Int.reduceNeg, Int.reduceAdd, Int.reduceSub, Int.reduceMul, Int.reduceLE, Int.reduceLT, Int.reduceEq, Int.reduceToNat, reduceCtorEq, cob_len, h0, ha]
    exact ⟨_, rfl⟩
  have hb : b.length < 1099511627776 := by omega
  obtain ⟨cl, l, eL, hL⟩ := run_lFromI 48 false b hb
  have limF := (lFrom_ok 13 [] b lim_nil rfl).1
  have limL : LimE l := ents_lim (by rw [hL]; exact ents_len limF)
  obtain ⟨cb, eB⟩ := run_LogBytesI 50 cl l limL
  obtain ⟨pk, p1, p2, p3, p4⟩ := back_log b
  rw [logBytes_vs hL, cob_same p3] at eB
  obtain ⟨e, eE, hE⟩ := run_eFromI 49 false b hb
  have limE : LimE [e] := ents_lim (by
    have := ents_len (eFrom_lim b)
    simp only [List.map_cons, List.map_nil, ← hE] at this ⊢
    exact this)
  obtain ⟨cr, eR⟩ := run_rowFromI 54 false b hb
  have eV := run_vFromI 56 false b hb
  obtain ⟨cs, eS⟩ := run_lFromS 51 false b hb
  have q1 := run_sameLog 57 cl cs l (lFrom 13 [] b) limL hL
  obtain ⟨cl2, l2, eL2, hL2⟩ := run_lFromI 48 cb pk (by omega)
  have q2 := run_sameLog 57 cl2 cl l2 l (ents_lim (by rw [hL2, p4]; exact ents_len limF)) (by rw [hL2, p4, hL])
  obtain ⟨ce, eO⟩ := run_EntryBytesI 50 e limE
  have hlen : l.length = (lFrom 13 [] b).length := by simpa using congrArg List.length hL
  have hle1 := eFrom_le b
  have hle2 := rFrom_le b
  have hle3 := vFrom_le b
  have hpk : List.take pk.length (cellsOfBytes b) = cellsOfBytes pk := by rw [cob_take, ← p1]
  have g1 : (pk.length : Int) ≤ b.length := by omega
  have g2 : ((b.length : Int) < pk.length) = False := eq_false (by omega)
  have g3 : ((b.length : Int) < (eFrom b).2) = False := eq_false (by omega)
  have g4 : ((b.length : Int) < (rFrom b).2) = False := eq_false (by omega)
  have g5 : ((b.length : Int) < (vFrom b).2) = False := eq_false (by omega)
  have g6 : (((eFrom b).2 : Int) < 0) = False := eq_false (by omega)
  have g7 : (((rFrom b).2 : Int) < 0) = False := eq_false (by omega)
  have g8 : (((vFrom b).2 : Int) < 0) = False := eq_false (by omega)
  have g12 : ((b.length : Int) < 0) = False := eq_false (by omega)
  have g9 : ((eFrom b).2 : Int) ≤ b.length := by omega
  have g10 : ((rFrom b).2 : Int) ≤ b.length := by omega
  have g11 : ((vFrom b).2 : Int) ≤ b.length := by omega
  have hem : ((l.length : Int) = 0) = (((eFrom b).2 : Int) = 0) := by
    have := lFrom_empty b
    refine propext ⟨fun h => ?_, fun h => ?_⟩
    · have := this.1 (by omega); omega
    · have := this.2 (by omega); omega
  have w1 : (eFrom b).2 ≠ 0 → u8s (entBytes e) = cellsOfBytes (b.take (eFrom b).2) := fun h => by
    rw [entBytes_vs hE, ← (eFrom_bytes h).2.2.1, cob_u8s]
  have w2 : (rFrom b).2 ≠ 0 → retP (runD tab noExt 60) 34 [.sl cr 3 ((rFrom b).1.map Val.cells)] = some [.sl true 1 (cellsOfBytes (b.take (rFrom b).2))] := fun h => by
    obtain ⟨h1, h2⟩ := rFrom_bytes b h
    rw [run_rbytesI 52 cr _ h1, cob_same h2.symm]
  have w3 : (vFrom b).2 ≠ 0 → retP (runD tab noExt 60) 35 [.agg (vFrom b).1.cells] = some [.sl true 1 (cellsOfBytes (b.take (vFrom b).2))] := fun h => by
    obtain ⟨h1, h2⟩ := vFrom_bytes b h
    rw [run_ValueBytesI 56 _ h1, cob_same h2.symm]
  simp only [Ent.cells, Ent.v, Val.cells] at eE eO eV w3
  clear hl p1 p3 p4 hL hL2 limF limL limE hE hlen
  have A : ∀ P : Prop, [Decidable P] → (decide (P = P)) = true := fun P _ => by simp
  by_cases n1 : (eFrom b).2 = 0 <;> by_cases n2 : (rFrom b).2 = 0 <;> by_cases n3 : (vFrom b).2 = 0
  all_goals
    have m1 : (((eFrom b).2 : Int) = 0) = ((eFrom b).2 = 0) := propext ⟨fun h => by omega, fun h => by omega⟩
    have m2 : (((rFrom b).2 : Int) = 0) = ((rFrom b).2 = 0) := propext ⟨fun h => by omega, fun h => by omega⟩
    have m3 : (((vFrom b).2 : Int) = 0) = ((vFrom b).2 = 0) := propext ⟨fun h => by omega, fun h => by omega⟩
    try have w1' := w1 n1
    try have w2' := w2 n2
    try have w3' := w3 n3
    clear w1 w2 w3
    first | (rw [w1'] at eO; clear w1') | skip
    simp -implicitDefEqProofs (disch := omega) only [go_sem, Nat.reduceBEq, Nat.reduceAdd, Nat.reduceSub, Nat.reduceMul, Nat.reduceLeDiff, Nat.reduceEqDiff, Nat.reduceLT, Int.reduceNeg, Int.reduceAdd, Int.reduceSub, Int.reduceMul, Int.reduceLE, Int.reduceLT, Int.reduceEq, Int.reduceToNat, reduceCtorEq, evC_draw, evD5x0, E5x0, evC_draw, evD5x1, E5x1, cob_len, cob_take, h0, ha, eL, eB, eE, eR, eV, eS, q1, eL2, q2, eO, hpk, bytesOf_cob, g1, g2, g3, g4, g5, g6, g7, g8, g9, g10, g11, g12, hem, m1, m2, m3, n1, n2, n3, *]
    exact ⟨_, rfl⟩
end Go.Proofs.Yteaojpfofifmnaa.PE
