/- Texts of this claim, one behind the other: Ph7, Pr0. -/
import Derived.Test.YtfbjbkkcilhgjaaG0
import Derived.Test.YtfbjbkkcilhgjaaPeX
/- The law of versions that are swept. -/
set_option linter.unusedSimpArgs false
set_option linter.unusedVariables false
set_option maxHeartbeats 4000000
set_option maxRecDepth 20000
namespace Go.Proofs.Ytfbjbkkcilhgjaa.PE
open Go.RowKit

-- find19
theorem run_drawSweptAt (d : Nat) (c : Bool) (bs : List UInt8) : ∃ (l : List Ver) (time : Int), retP (runD tab noExt (d + 10)) 19 [.sl c 1 (cellsOfBytes bs)] = some [.sl false 4 (l.map Ver.cells), .int .i64 time] ∧ GVs 31 l ∧ 0 ≤ time ∧ time ≤ 40 := by
  rw [retP, runD_eq find19 _ _ _ (by simp)]
  simp -implicitDefEqProofs only [go_sem, Nat.reduceBEq, Nat.reduceAdd, Nat.reduceSub, Nat.reduceMul, Nat.reduceLeDiff, Nat.reduceEqDiff, Nat.reduceLT, Int.reduceNeg, Int.reduceAdd, Int.reduceSub, Int.reduceMul, Int.reduceLE, Int.reduceLT, Int.reduceEq, Int.reduceToNat, reduceCtorEq]
  generalize hx : callS (runD tab noExt _) _ 55 _ true = X
  obtain ⟨c', bs', rfl, hb⟩ := ex_open hx rfl
  clear hx
  simp -implicitDefEqProofs only [go_sem, Nat.reduceBEq, Nat.reduceAdd, Nat.reduceSub, Nat.reduceMul, Nat.reduceLeDiff, Nat.reduceEqDiff, Nat.reduceLT, Int.reduceNeg, Int.reduceAdd, Int.reduceSub, Int.reduceMul, Int.reduceLE, Int.reduceLT, Int.reduceEq, Int.reduceToNat, reduceCtorEq]
  generalize hx : callS (runD tab noExt _) _ 59 _ false = X
  obtain ⟨l, time, p', rfl, g1, g2, g3, g4, g5⟩ := ex_versions (hp := []) (t := []) hx (by omega) (by omega) hb rfl rfl
  clear hx
  simp -implicitDefEqProofs (disch := omega) only [go_sem, Nat.reduceBEq, Nat.reduceAdd, Nat.reduceSub, Nat.reduceMul, Nat.reduceLeDiff, Nat.reduceEqDiff, Nat.reduceLT, Int.reduceNeg, Int.reduceAdd, Int.reduceSub, Int.reduceMul, Int.reduceLE, Int.reduceLT, Int.reduceEq, Int.reduceToNat, reduceCtorEq, IntWalk.i64_in]
  generalize hx : callS (runD tab noExt _) _ 57 _ false = X
  obtain ⟨m, rfl, h1, h2⟩ := ex_pick (hp := []) (t := []) hx (by omega) (by omega) hb rfl rfl
  clear hx
  simp -implicitDefEqProofs only [go_sem, Nat.reduceBEq, Nat.reduceAdd, Nat.reduceSub, Nat.reduceMul, Nat.reduceLeDiff, Nat.reduceEqDiff, Nat.reduceLT, Int.reduceNeg, Int.reduceAdd, Int.reduceSub, Int.reduceMul, Int.reduceLE, Int.reduceLT, Int.reduceEq, Int.reduceToNat, reduceCtorEq]
  exact ⟨l, m, rfl, g3, h1, by omega⟩
theorem verU_parts {a b : Ver} (h : verU a = verU b) : b.key = a.key ∧ b.born = a.born ∧ b.died = a.died ∧ b.row.vs = a.row.vs := by
  simp only [verU, List.cons.injEq, U.int.injEq, U.sub.injEq, and_true] at h
  obtain ⟨h1, h2, h3, h4⟩ := h
  exact ⟨h1.symm, h2.symm, h3.symm, (by simpa using (map_inj (fun _ _ => valU_inj) h4).symm)⟩
theorem zip_atV {α β : Type} {f : α → β} {a b : List α} (h : a.map f = b.map f) {i : Nat} {x : α × α} (h1 : a[i]? = some x.1) (h2 : b[i]? = some x.2) : f x.1 = f x.2 := by
  have h3 : (a.map f)[i]? = some (f x.1) := by simp [h1]
  have h4 : (b.map f)[i]? = some (f x.2) := by simp [h2]
  rw [h, h4] at h3
  exact (Option.some.inj h3).symm
theorem all_yesV {α : Type} (l : List α) : l.all (fun _ => true) = true := by simp
theorem loop_sameVers (d : Nat) (c c' : Bool) (a b : List Ver) (hs : a.length < 1099511627776) (hsa : ∀ w ∈ a, w.row.vs.length < 1099511627776) (he : a.map verU = b.map verU) (hlen : a.length = b.length) (K : Nat) (hK : (a.zip b).length ≤ K) : LoopS (runD tab noExt (d + 1)) (drawI (runD tab noExt (d + 1))) [0, 1, 5] [4] L21x0 ([] : Heap).length K [(0, .sl c 4 (a.map Ver.cells)), (1, .sl c' 4 (b.map Ver.cells)), (5, .int .i64 0)] [] = if (a.zip b).all (fun _ => true) then (some (.exit 0, [(4, .undef)], []) : Out) else (some (.ret, [(4, .bool false)], []) : Out) := by
  have key := LoopS_all (run := (runD tab noExt (d + 1))) (draw := drawI (runD tab noExt (d + 1))) (live := [0, 1, 5]) (out := [4]) (c := L21x0) (n0 := ([] : Heap).length) (a.zip b) (fun _ => true) (fun (i : Nat) => [(0, .sl c 4 (a.map Ver.cells)), (1, .sl c' 4 (b.map Ver.cells)), (5, .int .i64 i)]) [] (some (.exit 0, [(4, .undef)], []) : Out) (some (.ret, [(4, .bool false)], []) : Out) (fun K => ?_) (fun (i : Nat) (x : Ver × Ver) K hi hx => ?_) K hK
  · simp only [Int.natCast_zero] at key
    exact key
  · rw [LoopS_eq]
    simp -implicitDefEqProofs only [go_sem, Nat.reduceBEq, Nat.reduceAdd, Nat.reduceSub, Nat.reduceMul, Nat.reduceLeDiff, Nat.reduceEqDiff, Nat.reduceLT, Int.reduceNeg, Int.reduceAdd, Int.reduceSub, Int.reduceMul, Int.reduceLE, Int.reduceLT, Int.reduceEq, Int.reduceToNat, reduceCtorEq, evL21x0, B21x0, Int.lt_irrefl, List.length_zip, hlen, Nat.min_self, evC_draw, evD21x0, E21x0, Ver.cells, Row.v]
  · obtain ⟨g1, g2⟩ := List.getElem?_zip_eq_some.1 hx; rw [List.length_zip, hlen, Nat.min_self] at hi; obtain ⟨e1, e2, e3, e4⟩ := verU_parts (zip_atV he g1 g2); have hss := run_sameRow d x.1.row.clip x.2.row.clip x.1.row.vs x.2.row.vs (hsa _ (List.mem_of_getElem? g1)); rw [e4] at hss; clear he
    rw [LoopS_eq]
    simp -implicitDefEqProofs (disch := omega) only [go_sem, Nat.reduceBEq, Nat.reduceAdd, Nat.reduceSub, Nat.reduceMul, Nat.reduceLeDiff, Nat.reduceEqDiff, Nat.reduceLT, Int.reduceNeg, Int.reduceAdd, Int.reduceSub, Int.reduceMul, Int.reduceLE, Int.reduceLT, Int.reduceEq, Int.reduceToNat, reduceCtorEq, evL21x0, B21x0, hi, hx, IntWalk.i64_in, List.length_zip, hlen, Nat.min_self, evC_draw, evD21x0, E21x0, Ver.cells, Row.v, *]
    repeat' ((first | rw [GuardI_ndec] | rw [CondC_ndec] | rw [GuardQ_ndec] | rw [GuardI_dec] | rw [CondC_dec] | rw [GuardQ_dec] | rw [GuardI_nby] | rw [CondC_nby] | rw [GuardQ_nby] | rw [GuardQ_by] | rw [GuardI_by] | rw [CondC_by]) <;> split <;> simp -implicitDefEqProofs (disch := omega) only [go_sem, Nat.reduceBEq, Nat.reduceAdd, Nat.reduceSub, Nat.reduceMul, Nat.reduceLeDiff, Nat.reduceEqDiff, Nat.reduceLT, Int.reduceNeg, Int.reduceAdd, Int.reduceSub, Int.reduceMul, Int.reduceLE, Int.reduceLT, Int.reduceEq, Int.reduceToNat, reduceCtorEq, hi, hx, IntWalk.i64_in, List.length_zip, hlen, Nat.min_self, evC_draw, evD21x0, E21x0, Ver.cells, Row.v, *, *])
    all_goals first | rfl | (simp_all []; done) | (simp_all []; omega)
-- find21
theorem run_sameVers (d : Nat) (c c' : Bool) (a b : List Ver) (hs : a.length < 1099511627776) (hsa : ∀ w ∈ a, w.row.vs.length < 1099511627776) (he : a.map verU = b.map verU) : retP (runD tab noExt (d + 2)) 21 [.sl c 4 (a.map Ver.cells), .sl c' 4 (b.map Ver.cells)] = some [.bool true] := by
  have hlen : a.length = b.length := by simpa using congrArg List.length he
  have hl := loop_sameVers d c c' a b hs hsa he hlen 1099511627775 (by simp; omega)
  rw [if_pos (all_yesV _)] at hl
  rw [retP, runD_eq find21 _ _ _ (by simp)]
  simp -implicitDefEqProofs only [go_sem, Nat.reduceBEq, Nat.reduceAdd, Nat.reduceSub, Nat.reduceMul, Nat.reduceLeDiff, Nat.reduceEqDiff, Nat.reduceLT, Int.reduceNeg, Int.reduceAdd, Int.reduceSub, Int.reduceMul, Int.reduceLE, Int.reduceLT, Int.reduceEq, Int.reduceToNat, reduceCtorEq, hlen] at hl ⊢
  rw [hl]
  simp -implicitDefEqProofs only [go_sem, Nat.reduceBEq, Nat.reduceAdd, Nat.reduceSub, Nat.reduceMul, Nat.reduceLeDiff, Nat.reduceEqDiff, Nat.reduceLT, Int.reduceNeg, Int.reduceAdd, Int.reduceSub, Int.reduceMul, Int.reduceLE, Int.reduceLT, Int.reduceEq, Int.reduceToNat, reduceCtorEq]
-- find24
theorem run_sameSeen (d : Nat) (c c' : Bool) (a b : List Ver) (key time : Int) (hs : a.length < 1099511627776) (hsh : ShortVs a) (hfn : ∀ v ∈ a, v.row.vs.length < 4294967296) (hs' : b.length < 1099511627776) (hsh' : ShortVs b) (hfn' : ∀ v ∈ b, v.row.vs.length < 4294967296) (hv : rowV a key time = rowV b key time) : retP (runD tab noExt (d + 10)) 24 [.sl c 4 (a.map Ver.cells), .sl c' 4 (b.map Ver.cells), .int .i64 key, .int .i64 time] = some [.bool true] := by
  obtain ⟨cl, e1⟩ := run_seenI d c a key time hs hsh hfn
  obtain ⟨cl', e2⟩ := run_seenI d c' b key time hs' hsh' hfn'
  have h1 : (rowAt a key time).isSome = (rowAt b key time).isSome := by
    have := congrArg Option.isSome hv
    simpa [rowV] using this
  have h2 : ((rowAt a key time).getD Ver.zero).row.vs = ((rowAt b key time).getD Ver.zero).row.vs := by
    unfold rowV at hv
    cases ha : rowAt a key time with
    | none => rw [ha] at hv; cases hb : rowAt b key time with
      | none => rfl
      | some y => rw [hb] at hv; cases hv
    | some x => rw [ha] at hv; cases hb : rowAt b key time with
      | none => rw [hb] at hv; cases hv
      | some y => rw [hb] at hv; simpa using hv
  have h3 : ((rowAt a key time).getD Ver.zero).row.vs.length < 1099511627776 := by
    cases ha : rowAt a key time with
    | none => simp [Ver.zero]
    | some x =>
      unfold rowAt at ha
      split at ha
      · exact (hsh x (List.mem_of_find?_eq_some ha)).1
      · cases ha
  have hr := run_sameRow (d + 8) cl cl' ((rowAt a key time).getD Ver.zero).row.vs ((rowAt b key time).getD Ver.zero).row.vs h3
  rw [decide_eq_true h2] at hr
  rw [retP, runD_eq find24 _ _ _ (by simp)]
  simp -implicitDefEqProofs (disch := omega) only [go_sem, Nat.reduceBEq, Nat.reduceAdd, Nat.reduceSub, Nat.reduceMul, Nat.reduceLeDiff, Nat.reduceEqDiff, Nat.reduceLT, Int.reduceNeg, Int.reduceAdd, Int.reduceSub, Int.reduceMul, Int.reduceLE, Int.reduceLT, Int.reduceEq, Int.reduceToNat, reduceCtorEq, e1, e2, h1, hr]
  try (cases (rowAt b key time).isSome <;> rfl)
-- find4
theorem loop_times (c cb : Bool) (a b : List Ver) (key time : Int) (hk : 0 ≤ key ∧ key ≤ 10) (ht : 0 ≤ time ∧ time ≤ 100) (h : ∀ d t, time ≤ t → retP (runD tab noExt (d + 10)) 24 [.sl c 4 (a.map Ver.cells), .sl cb 4 (b.map Ver.cells), .int .i64 key, .int .i64 t] = some [.bool true]) (K : Nat) (hK : 40 ≤ K) : LoopS (runD tab noExt 60) (drawI (runD tab noExt 60)) [3, 4, 5, 6, 7] [2, 3, 4, 5, 6] L4x1 0 K [(3, .sl c 4 (a.map Ver.cells)), (4, .int .i64 time), (5, .sl cb 4 (b.map Ver.cells)), (6, .int .i64 key), (7, .int .i64 time)] [] = some (.exit 2, [(2, .undef), (3, .sl c 4 (a.map Ver.cells)), (4, .int .i64 time), (5, .sl cb 4 (b.map Ver.cells)), (6, .int .i64 key)], []) := by
  obtain ⟨_, _, e⟩ := LoopS_inv (run := runD tab noExt 60) (draw := drawI (runD tab noExt 60)) (live := [3, 4, 5, 6, 7]) (out := [2, 3, 4, 5, 6]) (c := L4x1) (n0 := 0) 40
      (fun i (_ : Unit) => True)
      (fun i _ => [(3, .sl c 4 (a.map Ver.cells)), (4, .int .i64 time), (5, .sl cb 4 (b.map Ver.cells)), (6, .int .i64 key), (7, .int .i64 (time + (i : Nat)))]) (fun _ => []) (fun _ => some (.exit 2, [(2, .undef), (3, .sl c 4 (a.map Ver.cells)), (4, .int .i64 time), (5, .sl cb 4 (b.map Ver.cells)), (6, .int .i64 key)], []))
      (fun b K hb => by
        rw [LoopS_eq]
        simp -implicitDefEqProofs (disch := omega) only [go_sem, Nat.reduceBEq, Nat.reduceAdd, Nat.reduceSub, Nat.reduceMul, Nat.reduceLeDiff, Nat.reduceEqDiff, Nat.reduceLT, Int.reduceNeg, Int.reduceAdd, Int.reduceSub, Int.reduceMul, Int.reduceLE, Int.reduceLT, Int.reduceEq, Int.reduceToNat, reduceCtorEq, evL4x1, B4x1, IntWalk.i64_in, Int.cast_ofNat_Int, Int.lt_irrefl]) (fun i b K hi _ => by
        refine ⟨(), trivial, ?_⟩
        have hs := h 50 (time + (i : Nat)) (by omega)
        have hlt : time + (i : Int) < time + 40 := by omega
        rw [LoopS_eq]
        simp -implicitDefEqProofs (disch := omega) only [go_sem, Nat.reduceBEq, Nat.reduceAdd, Nat.reduceSub, Nat.reduceMul, Nat.reduceLeDiff, Nat.reduceEqDiff, Nat.reduceLT, Int.reduceNeg, Int.reduceAdd, Int.reduceSub, Int.reduceMul, Int.reduceLE, Int.reduceLT, Int.reduceEq, Int.reduceToNat, reduceCtorEq, evL4x1, B4x1, IntWalk.i64_in, hlt, hs, Int.add_assoc]) K hK () trivial
  simp only [Int.natCast_zero, Int.add_zero] at e
  exact e
theorem loop_keys (c cb : Bool) (a b : List Ver) (time : Int) (ht : 0 ≤ time ∧ time ≤ 100) (h : ∀ d key t, time ≤ t → retP (runD tab noExt (d + 10)) 24 [.sl c 4 (a.map Ver.cells), .sl cb 4 (b.map Ver.cells), .int .i64 key, .int .i64 t] = some [.bool true]) (K : Nat) (hK : 5 ≤ K) : LoopS (runD tab noExt 60) (drawI (runD tab noExt 60)) [3, 4, 5, 6] [2, 4, 5] L4x0 0 K [(3, .sl c 4 (a.map Ver.cells)), (4, .int .i64 time), (5, .sl cb 4 (b.map Ver.cells)), (6, .int .i64 0)] [] = some (.exit 0, [(2, .undef), (4, .int .i64 time), (5, .sl cb 4 (b.map Ver.cells))], []) := by
  obtain ⟨_, _, e⟩ := LoopS_inv (run := runD tab noExt 60) (draw := drawI (runD tab noExt 60)) (live := [3, 4, 5, 6]) (out := [2, 4, 5]) (c := L4x0) (n0 := 0) 5
      (fun i (_ : Unit) => True)
      (fun i _ => [(3, .sl c 4 (a.map Ver.cells)), (4, .int .i64 time), (5, .sl cb 4 (b.map Ver.cells)), (6, .int .i64 (i : Nat))]) (fun _ => []) (fun _ => some (.exit 0, [(2, .undef), (4, .int .i64 time), (5, .sl cb 4 (b.map Ver.cells))], []))
      (fun b K hb => by
        rw [LoopS_eq]
        simp -implicitDefEqProofs (disch := omega) only [go_sem, Nat.reduceBEq, Nat.reduceAdd, Nat.reduceSub, Nat.reduceMul, Nat.reduceLeDiff, Nat.reduceEqDiff, Nat.reduceLT, Int.reduceNeg, Int.reduceAdd, Int.reduceSub, Int.reduceMul, Int.reduceLE, Int.reduceLT, Int.reduceEq, Int.reduceToNat, reduceCtorEq, evL4x0, B4x0, Int.cast_ofNat_Int, Int.lt_irrefl]) (fun i q K hi _ => by
        refine ⟨(), trivial, ?_⟩
        have hl := loop_times c cb a b (i : Int) time (by omega) ht (fun d t h1 => h d (i : Int) t h1) 1099511627775 (by omega)
        have hlt : (i : Int) < 5 := by omega
        rw [LoopS_eq]
        simp -implicitDefEqProofs (disch := omega) only [go_sem, Nat.reduceBEq, Nat.reduceAdd, Nat.reduceSub, Nat.reduceMul, Nat.reduceLeDiff, Nat.reduceEqDiff, Nat.reduceLT, Int.reduceNeg, Int.reduceAdd, Int.reduceSub, Int.reduceMul, Int.reduceLE, Int.reduceLT, Int.reduceEq, Int.reduceToNat, reduceCtorEq, evL4x0, B4x0, IntWalk.i64_in, hlt]
        try simp -implicitDefEqProofs only [go_sem, Nat.reduceBEq, Nat.reduceAdd, Nat.reduceSub, Nat.reduceMul, Nat.reduceLeDiff, Nat.reduceEqDiff, Nat.reduceLT, Int.reduceNeg, Int.reduceAdd, Int.reduceSub, Int.reduceMul, Int.reduceLE, Int.reduceLT, Int.reduceEq, Int.reduceToNat, reduceCtorEq] at hl
        rw [hl]
        simp -implicitDefEqProofs (disch := omega) only [go_sem, Nat.reduceBEq, Nat.reduceAdd, Nat.reduceSub, Nat.reduceMul, Nat.reduceLeDiff, Nat.reduceEqDiff, Nat.reduceLT, Int.reduceNeg, Int.reduceAdd, Int.reduceSub, Int.reduceMul, Int.reduceLE, Int.reduceLT, Int.reduceEq, Int.reduceToNat, reduceCtorEq, IntWalk.i64_in]) K hK () trivial
  simp only [Int.natCast_zero] at e
  exact e
theorem GVs.vs {n : Nat} {l l2 : List Ver} (h : GVs n l) (hl : ∀ v ∈ l2, ∃ w ∈ l, verU v = verU w) (hn : l2.length ≤ n) : GVs n l2 := by
  refine ⟨hn, fun v hv => ?_⟩
  obtain ⟨w, hw, e⟩ := hl v hv
  obtain ⟨_, _, _, e4⟩ := verU_parts e
  rw [← e4]
  exact h.2 w hw
theorem map_memU {l l2 : List Ver} (h : l2.map verU = l.map verU) : ∀ v ∈ l2, ∃ w ∈ l, verU v = verU w := by
  intro v hv
  have : verU v ∈ l2.map verU := List.mem_map_of_mem hv
  rw [h] at this
  obtain ⟨w, hw, e⟩ := List.mem_map.1 this
  exact ⟨w, hw, e.symm⟩
theorem swept_vs {a b : List Ver} (h : a.map verU = b.map verU) (t : Int) : (swept t a).map verU = (swept t b).map verU := by
  have key : ∀ l : List Ver, (swept t l).map verU = (l.map verU).filter (fun u => match u with | [_, _, .int n, _] => decide (n = 0) || decide (t < n) | _ => false) := by
    intro l
    unfold swept
    rw [List.filter_map]
    congr 1
    refine List.filter_congr (fun x _ => ?_)
    simp only [Function.comp, verU, gone]
    by_cases h0 : x.died = 0
    · simp [h0]
    · by_cases hx : t < x.died
      · have : ¬ x.died ≤ t := by omega
        simp [h0, hx, this]
      · have : x.died ≤ t := by omega
        simp [h0, hx, this]
  rw [key, key, h]
theorem law_SweptAt (b : List UInt8) (hl : b.length ≤ maxLen) : ∃ d h1, runD tab noExt d 4 [.sl false 1 (cellsOfBytes b)] [] = some ([.bool true], h1) := by
  refine ⟨61, ?_⟩
  rw [runD_eq find4 _ _ _ (by simp)]
  have ha := run_alive 55
  by_cases h0 : (1048576 : Int) < b.length
  · simp -implicitDefEqProofs (disch := omega) only [go_sem, Nat.reduceBEq, Nat.reduceAdd, Nat.reduceSub, Nat.reduceMul, Nat.reduceLeDiff, Nat.reduceEqDiff, Nat.reduceLT, Int.reduceNeg, Int.reduceAdd, Int.reduceSub, Int.reduceMul, Int.reduceLE, Int.reduceLT, Int.reduceEq, Int.reduceToNat, reduceCtorEq, ofBytes_len, h0]
    exact ⟨_, rfl⟩
  obtain ⟨l, time, eD, hg, t0, t1⟩ := run_drawSweptAt 50 false b
  obtain ⟨s1, s2⟩ := hg.short
  have hln := hg.1
  obtain ⟨cl, l2, eI, hI⟩ := run_SweptI 51 false l time (by omega) s1 s2
  obtain ⟨cw, l3, eS, hS⟩ := run_SweptS 54 false l time (by omega) s1 s2
  have hm : ∀ v ∈ l2, ∃ w ∈ l, verU v = verU w := by
    intro v hv
    obtain ⟨w, hw, e⟩ := map_memU hI v hv
    refine ⟨w, ?_, e⟩
    split at hw
    · exact swept_mem w hw
    · cases hw
  have hl2 : l2.length ≤ l.length := by
    have := congrArg List.length hI
    simp only [List.length_map] at this
    rw [this]
    split
    · exact swept_len time l
    · simp
  have hg2 : GVs 31 l2 := hg.vs hm (by omega)
  obtain ⟨s3, s4⟩ := hg2.short
  have q1 := run_sameVers 58 cl cw l2 l3 (by omega) (fun w hw => (s3 w hw).1) (hI.trans hS.symm)
  have eV := run_versI 52 false l (by omega) s1
  cases ok : versOk l
  · rw [ok] at hI eV
    simp only [Bool.false_eq_true, if_false, List.map_nil, List.map_eq_nil_iff] at hI
    subst hI
    simp only [List.map_nil] at eI q1
    simp -implicitDefEqProofs (disch := omega) only [go_sem, Nat.reduceBEq, Nat.reduceAdd, Nat.reduceSub, Nat.reduceMul, Nat.reduceLeDiff, Nat.reduceEqDiff, Nat.reduceLT, Int.reduceNeg, Int.reduceAdd, Int.reduceSub, Int.reduceMul, Int.reduceLE, Int.reduceLT, Int.reduceEq, Int.reduceToNat, reduceCtorEq, ofBytes_len, h0, eD, eI, eS, q1, eV, ha]
    exact ⟨_, rfl⟩
  · rw [ok] at hI eV
    simp only [if_true] at hI
    have hvo : versOk l2 = true := by rw [versOk_vs hI]; exact versOk_swept time ok
    have eV2 := run_versI 52 cl l2 (by omega) s3
    rw [hvo] at eV2
    obtain ⟨cl5, l5, eI5, hI5⟩ := run_SweptI 51 cl l2 time (by omega) s3 s4
    rw [hvo] at hI5
    simp only [if_true] at hI5
    have h5 : l5.map verU = l2.map verU := by rw [hI5, swept_vs hI time, swept_twice, hI]
    have hl5 : l5.length = l2.length := by simpa using congrArg List.length h5
    have hg5 : GVs 31 l5 := hg2.vs (map_memU h5) (by omega)
    have q2 := run_sameVers 58 cl5 cl l5 l2 (by omega) (fun w hw => ((hg5.short).1 w hw).1) h5
    have hk := loop_keys false cl l l2 time (by omega) (fun d key t ht => run_sameSeen d false cl l l2 key t (by omega) s1 s2 (by omega) s3 s4 (by
      have e1 : rowV l2 key t = rowV (swept time l) key t := by simp only [rowV_vs hI]
      rw [e1, rowV_swept ht ok])) 1099511627775 (by omega)
    simp -implicitDefEqProofs (disch := omega) only [go_sem, Nat.reduceBEq, Nat.reduceAdd, Nat.reduceSub, Nat.reduceMul, Nat.reduceLeDiff, Nat.reduceEqDiff, Nat.reduceLT, Int.reduceNeg, Int.reduceAdd, Int.reduceSub, Int.reduceMul, Int.reduceLE, Int.reduceLT, Int.reduceEq, Int.reduceToNat, reduceCtorEq, ofBytes_len, h0, eD, eI, eS, q1, eV]
    try simp -implicitDefEqProofs only [go_sem, Nat.reduceBEq, Nat.reduceAdd, Nat.reduceSub, Nat.reduceMul, Nat.reduceLeDiff, Nat.reduceEqDiff, Nat.reduceLT, Int.reduceNeg, Int.reduceAdd, Int.reduceSub, Int.reduceMul, Int.reduceLE, Int.reduceLT, Int.reduceEq, Int.reduceToNat, reduceCtorEq] at hk
    rw [hk]
    simp -implicitDefEqProofs (disch := omega) only [go_sem, Nat.reduceBEq, Nat.reduceAdd, Nat.reduceSub, Nat.reduceMul, Nat.reduceLeDiff, Nat.reduceEqDiff, Nat.reduceLT, Int.reduceNeg, Int.reduceAdd, Int.reduceSub, Int.reduceMul, Int.reduceLE, Int.reduceLT, Int.reduceEq, Int.reduceToNat, reduceCtorEq, eV2, eI5, q2, ha]
    exact ⟨_, rfl⟩
end Go.Proofs.Ytfbjbkkcilhgjaa.PE
/- A list of bytes that comes in, as the evaluator reads it. -/
set_option linter.unusedVariables false
set_option linter.unusedSimpArgs false
namespace Go.Proofs.Ytfbjbkkcilhgjaa.PE
open Go.RowKit

def IsRow (w : World) (a : Option Addr) (len cap : Nat) : Prop :=
  (a = none ∧ len = 0 ∧ cap = 0) ∨
  ∃ (x : Addr) (zs : List Int), a = some x ∧ len ≤ cap ∧ cap ≤ maxLen ∧ zs.length = cap ∧ (∀ i, i < zs.length → w.cell? (x.add i) = some (.int .u8 (zs.getD i 0))) ∧ ∀ n ∈ zs, (Lit.int .u8 n).wf = true

theorem IsRow.rep {w : World} {a : Option Addr} {len cap : Nat} (h : IsRow w a len cap) : ∃ l : List UInt8, l.length ≤ maxLen ∧ RepA w (fun b => b < w.heap.size) (.slice a len cap) (.sl false 1 (cellsOfBytes l)) := by
  rcases h with ⟨rfl, rfl, rfl⟩ | ⟨x, zs, rfl, h1, h2, h3, h4, h5⟩
  · exact ⟨[], Nat.zero_le _, rep_empty (by decide) (fun h => by cases h)⟩
  · have hb : ∀ i, i < zs.length → 0 ≤ zs.getD i 0 ∧ zs.getD i 0 < 256 := fun i hi => by
      have := h5 (zs.getD i 0) (by rw [List.getD_eq_getElem?_getD, List.getElem?_eq_getElem hi]; exact List.getElem_mem hi)
      simp only [Lit.wf, decide_eq_true_eq] at this
      have h1 : IntKind.u8.min = 0 := rfl
      have h2 : IntKind.u8.max = 255 := rfl
      simp only [Bool.and_eq_true, decide_eq_true_eq, h1, h2] at this
      omega
    refine ⟨(zs.take len).map fun z => UInt8.ofNat z.toNat, by simp; omega, ?_⟩
    refine Rep.sl (some x) len cap false _ 1 (fun j _ => .int .u8 (zs.getD j 0)) (by simp [cellsOfBytes]; omega) h1 (fun h => by cases h) (by decide) (fun y hy => ?_) (fun hn => ?_) (fun j c y z hy hz => ?_)
    · simp only [cellsOfBytes, List.mem_map] at hy
      obtain ⟨b, _, rfl⟩ := hy
      rfl
    · obtain ⟨g, o, sp⟩ := x
      have h0 := h4 0 (by omega)
      have hsp : sp = none := by
        simp only [Addr.add, if_true] at h0
        unfold World.cell? at h0
        cases sp with
        | none => rfl
        | some s => simp at h0; split at h0 <;> cases h0
      subst hsp
      refine ⟨g, o, rfl, ?_, fun j c y z hy hz => ?_⟩
      · simp only [Addr.add, if_true] at h0
        unfold World.cell? at h0
        rcases Nat.lt_or_ge g w.heap.size with hg | hg
        · exact hg
        · rw [Array.getElem?_eq_none hg] at h0; cases h0
      · have hj : j < ((zs.take len).map fun z => UInt8.ofNat z.toNat).length := by
          have := (List.getElem?_eq_some_iff.1 hy).1
          simpa [cellsOfBytes] using this
        simp only [List.length_map, List.length_take] at hj
        simp only [cellsOfBytes, List.getElem?_map] at hy
        obtain ⟨b, _, rfl⟩ := Option.map_eq_some_iff.1 hy
        have hc : c = 0 := by
          have := (List.getElem?_eq_some_iff.1 hz).1
          simp at this
          omega
        subst hc
        have := h4 j (by omega)
        rw [add0] at this
        simpa using this
    · have hj : j < zs.length := by
        have := (List.getElem?_eq_some_iff.1 hy).1
        simp [cellsOfBytes] at this
        omega
      have hjl : j < len := by
        have := (List.getElem?_eq_some_iff.1 hy).1
        simp [cellsOfBytes] at this
        omega
      have hbj := hb j hj
      have hc : c = 0 := by
        simp only [cellsOfBytes, List.getElem?_map] at hy
        obtain ⟨b, _, rfl⟩ := Option.map_eq_some_iff.1 hy
        have := (List.getElem?_eq_some_iff.1 hz).1
        simp at this
        omega
      subst hc
      rw [List.getD_eq_getElem?_getD, List.getElem?_eq_getElem hj] at hbj
      simp [cellsOfBytes, List.getElem?_take_of_lt hjl, List.getElem?_eq_getElem hj] at hy
      subst hy
      simp at hz
      subst hz
      simp only [Option.getD_some] at hbj
      have e : ((UInt8.ofNat (zs[j]).toNat).toNat : Int) = zs[j] := by
        simp
        omega
      simp only [List.getD_eq_getElem?_getD, List.getElem?_eq_getElem hj, Option.getD_some]
      rw [show max zs[j] 0 % 256 = zs[j] by omega]
      exact .int _ _
end Go.Proofs.Ytfbjbkkcilhgjaa.PE
