/- Texts of this claim, one behind the other: Pb5, Pf2, Pf3, Pf4, Pf5, Pf6, Pf7, Pf8, Pb6, Pf9, Pfa, Pfb, Pfc, Pfd, Pru, Pl4, Pl6, Pb8, Pfe, Pff, Pfg, Pfh, Pr0, Pr5, Prb, Pfi, Pfk, Pfl, Pfm, Pg0, Pg4, Pg1, Pg2, Pg7. -/
import Derived.Test.YteaojpfofifmnaaG0
import Derived.Test.YteaojpfofifmnaaPeX
import Derived.Deep.Slices
import Derived.ChangeArms
/- Bytes of entries: both functions tell them. -/
set_option linter.unusedSimpArgs false
set_option linter.unusedVariables false
set_option maxHeartbeats 8000000
set_option maxRecDepth 20000
namespace Go.Proofs.Yteaojpfofifmnaa.PE
open Go.RowKit

theorem run_truthB (d : Nat) (b : Bool) : retP (runD tab noExt (d + 1)) 112 [.bool b] = some [.int .i64 (goneI b)] := by
  rw [retP, runD_eq find112 _ _ _ (by simp)]
  simp -implicitDefEqProofs (disch := omega) only [go_sem, Nat.reduceBEq, Nat.reduceAdd, Nat.reduceSub, Nat.reduceMul, Nat.reduceLeDiff, Nat.reduceEqDiff, Nat.reduceLT, Int.reduceNeg, Int.reduceAdd, Int.reduceSub, Int.reduceMul, Int.reduceLE, Int.reduceLT, Int.reduceEq, Int.reduceToNat, reduceCtorEq, goneI]
  repeat' ((first | rw [GuardI_ndec] | rw [CondC_ndec] | rw [GuardQ_ndec] | rw [GuardI_dec] | rw [CondC_dec] | rw [GuardQ_dec] | rw [GuardI_nby] | rw [CondC_nby] | rw [GuardQ_nby] | rw [GuardQ_by] | rw [GuardI_by] | rw [CondC_by]) <;> split <;> simp -implicitDefEqProofs (disch := omega) only [go_sem, Nat.reduceBEq, Nat.reduceAdd, Nat.reduceSub, Nat.reduceMul, Nat.reduceLeDiff, Nat.reduceEqDiff, Nat.reduceLT, Int.reduceNeg, Int.reduceAdd, Int.reduceSub, Int.reduceMul, Int.reduceLE, Int.reduceLT, Int.reduceEq, Int.reduceToNat, reduceCtorEq, goneI, *])
  all_goals simp_all
theorem run_l2B (d : Nat) (b : Bool) : retP (runD tab noExt (d + 1)) 109 [.bool b] = some [.int .i64 (goneI b)] := by
  rw [retP, runD_eq find109 _ _ _ (by simp)]
  simp -implicitDefEqProofs (disch := omega) only [go_sem, Nat.reduceBEq, Nat.reduceAdd, Nat.reduceSub, Nat.reduceMul, Nat.reduceLeDiff, Nat.reduceEqDiff, Nat.reduceLT, Int.reduceNeg, Int.reduceAdd, Int.reduceSub, Int.reduceMul, Int.reduceLE, Int.reduceLT, Int.reduceEq, Int.reduceToNat, reduceCtorEq, goneI]
  repeat' ((first | rw [GuardI_ndec] | rw [CondC_ndec] | rw [GuardQ_ndec] | rw [GuardI_dec] | rw [CondC_dec] | rw [GuardQ_dec] | rw [GuardI_nby] | rw [CondC_nby] | rw [GuardQ_nby] | rw [GuardQ_by] | rw [GuardI_by] | rw [CondC_by]) <;> split <;> simp -implicitDefEqProofs (disch := omega) only [go_sem, Nat.reduceBEq, Nat.reduceAdd, Nat.reduceSub, Nat.reduceMul, Nat.reduceLeDiff, Nat.reduceEqDiff, Nat.reduceLT, Int.reduceNeg, Int.reduceAdd, Int.reduceSub, Int.reduceMul, Int.reduceLE, Int.reduceLT, Int.reduceEq, Int.reduceToNat, reduceCtorEq, goneI, *])
  all_goals simp_all
theorem len_wr (b : List Int) (w : Wr) : (b ++ wrBytes w).length = b.length + (2 + (rowBytes w.row.vs).length) := by simp [wrBytes]; omega
theorem u8s_wr (b : List Int) (w : Wr) : u8s (b ++ wrBytes w) = u8s b ++ [.int .u8 w.key] :: [.int .u8 (goneI w.gone)] :: u8s (rowBytes w.row.vs) := by rw [u8s_app]; rfl
theorem loop_ebI (d : Nat) (t : Int) (c : Bool) (ws : List Wr) (hw5 : ws.length ≤ 5) (hok : ∀ w ∈ ws, w.one = true) (K : Nat) (hK : (ws).length ≤ K) (b0 : List Int) (hb0 : (fun (i : Nat) (b : List Int) => 2 ≤ b.length ∧ b.length ≤ 2 + 35 * i) 0 b0) : LoopS (runD tab noExt (d + 8)) (drawI (runD tab noExt (d + 8))) [3, 15, 16, 17] [3] L67x0 ([.box [.int .i64 t, .sl c 3 (ws.map Wr.cells)], .rows ((b0).length - 2) 1 (u8s (b0))] : Heap).length K [(3, .ref 1 ((b0).length - 2) 0 (b0).length false), (15, .sl c 3 (ws.map Wr.cells)), (16, .int .i64 ws.length), (17, .int .i64 (0 : Nat))] [.box [.int .i64 t, .sl c 3 (ws.map Wr.cells)], .rows ((b0).length - 2) 1 (u8s (b0))] = (some (.exit 0, [(3, .ref 1 ((((ws).foldl (fun b w => b ++ wrBytes w) b0)).length - 2) 0 (((ws).foldl (fun b w => b ++ wrBytes w) b0)).length false)], [.box [.int .i64 t, .sl c 3 (ws.map Wr.cells)], .rows ((((ws).foldl (fun b w => b ++ wrBytes w) b0)).length - 2) 1 (u8s (((ws).foldl (fun b w => b ++ wrBytes w) b0)))]) : Out) ∧ (fun (i : Nat) (b : List Int) => 2 ≤ b.length ∧ b.length ≤ 2 + 35 * i) (ws).length ((ws).foldl (fun b w => b ++ wrBytes w) b0) := by
  have key := LoopS_foldI (run := (runD tab noExt (d + 8))) (draw := drawI (runD tab noExt (d + 8))) (live := [3, 15, 16, 17]) (out := [3]) (c := L67x0) (n0 := ([.box [.int .i64 t, .sl c 3 (ws.map Wr.cells)], .rows ((b0).length - 2) 1 (u8s (b0))] : Heap).length) (ws) (fun b w => b ++ wrBytes w) (fun (i : Nat) (b : List Int) => 2 ≤ b.length ∧ b.length ≤ 2 + 35 * i) (fun (i : Nat) (b : List Int) => [(3, .ref 1 ((b).length - 2) 0 (b).length false), (15, .sl c 3 (ws.map Wr.cells)), (16, .int .i64 ws.length), (17, .int .i64 (i : Nat))]) (fun (i : Nat) (b : List Int) => [.box [.int .i64 t, .sl c 3 (ws.map Wr.cells)], .rows ((b).length - 2) 1 (u8s (b))]) (fun b => (some (.exit 0, [(3, .ref 1 ((b).length - 2) 0 (b).length false)], [.box [.int .i64 t, .sl c 3 (ws.map Wr.cells)], .rows ((b).length - 2) 1 (u8s (b))]) : Out)) (fun b K hb => ?_) (fun (i : Nat) (x : Wr) b K hi hx hb => ?_) K hK b0 hb0
  · simp only [Int.natCast_zero] at key
    exact key
  · rw [LoopS_eq]
    simp -implicitDefEqProofs only [go_sem, Nat.reduceBEq, Nat.reduceAdd, Nat.reduceSub, Nat.reduceMul, Nat.reduceLeDiff, Nat.reduceEqDiff, Nat.reduceLT, Int.reduceNeg, Int.reduceAdd, Int.reduceSub, Int.reduceMul, Int.reduceLE, Int.reduceLT, Int.reduceEq, Int.reduceToNat, reduceCtorEq, evL67x0, B67x0, Int.lt_irrefl]
  · have hxo := hok x (List.mem_of_getElem? hx); obtain ⟨o1, o2, o3⟩ := wr_one hxo; have hxl := rbytes_len o3; have sm1 : b.length + 2 < 4294967296 := (by have := hb.2; omega); have sm2 : b.length + (2 + (rowBytes x.row.vs).length) < 4294967296 := (by have := hb.2; omega); have hst : b.length - 2 + (2 + (rowBytes x.row.vs).length) = b.length + (2 + (rowBytes x.row.vs).length) - 2 := (by have := hb.1; omega); have hvx := run_rbytesI d x.row.clip x.row.vs o3; have kw1 : x.key % 256 = x.key := (by omega); have kw2 : goneI x.gone % 256 = goneI x.gone := (by have := goneI_in x.gone; omega)
    all_goals
      refine ⟨?_, ?_⟩
      · (rw [len_wr]; omega)
      · rw [LoopS_eq]
        simp -implicitDefEqProofs (disch := first | omega | assumption) only [go_sem, Nat.reduceBEq, Nat.reduceAdd, Nat.reduceSub, Nat.reduceMul, Nat.reduceLeDiff, Nat.reduceEqDiff, Nat.reduceLT, Int.reduceNeg, Int.reduceAdd, Int.reduceSub, Int.reduceMul, Int.reduceLE, Int.reduceLT, Int.reduceEq, Int.reduceToNat, reduceCtorEq, evL67x0, B67x0, hi, hx, IntWalk.i64_in, List.map_append, List.foldl_cons, evC_draw, evD67x0, E67x0, hx, hvx, run_truthB, Wr.cells, Row.v, len_wr, u8s_wr, u8s_len, hst, sm1, sm2, kw1, kw2, IntKind.wrap_u8, if_true, if_false, elemsOf, elemOf]
        skip
-- find67
theorem own_entryBytes (d : Nat) (e : Ent) (h : logOk [e] = true) : ∃ v hc ids, runD tab noExt (d + 9) 67 [.agg e.cells] [] = some ([v], hc) ∧ OwnF hc (.sub fdByte) v (.sub (byU (frB (bodyB e)))) ids ∧ ids.Nodup := by
  obtain ⟨h1, h2, h3⟩ := one_at h
  have hbl := body_len h
  obtain ⟨hl, hle, _⟩ := loop_ebI d e.time e.wc e.ws h3 h2 1099511627775 (by omega) [e.time, (e.ws.length : Int)] ⟨by simp, by simp⟩
  have hbe : bodyB e = e.ws.foldl (fun b w => b ++ wrBytes w) [e.time, (e.ws.length : Int)] := rfl
  rw [← hbe] at hl hle
  have hi0 : u8s [e.time, (e.ws.length : Int)] = [[.int .u8 e.time], [.int .u8 e.ws.length]] := rfl
  simp only [hi0, List.length_cons, List.length_nil, Int.natCast_zero] at hl
  obtain ⟨v1, hc, is0, q1, q2, q3⟩ := own_framed (d + 6) false (bodyB e) (by omega) (in_body h)
  have ht : List.take (bodyB e).length (u8s (bodyB e)) = u8s (bodyB e) := List.take_of_length_le (by rw [u8s_len]; omega)
  obtain ⟨w, hw, js, k1, k2, k3, k4, k5, k6⟩ := own_call (h := [.box [.int .i64 e.time, .sl e.wc 3 (e.ws.map Wr.cells)], .rows ((bodyB e).length - 2) 1 (u8s (bodyB e))]) (args := [.ref 1 ((bodyB e).length - 2) 0 (bodyB e).length false]) (by simp only [pureDAs, mapO, pureDA, pureD, deepest, List.getElem?_cons_succ, List.getElem?_cons_zero, if_true, List.drop_zero, ht]) q1 q2 q3
  refine ⟨w, hw, js, ?_, k2, k3⟩
  have kt : e.time % 256 = e.time := by omega
  have kl : (e.ws.length : Int) % 256 = e.ws.length := by omega
  rw [runD_eq find67 _ _ _ (by simp)]
  simp -implicitDefEqProofs (disch := omega) only [go_sem, Nat.reduceBEq, Nat.reduceAdd, Nat.reduceSub, Nat.reduceMul, Nat.reduceLeDiff, Nat.reduceEqDiff, Nat.reduceLT, Int.reduceNeg, Int.reduceAdd, Int.reduceSub, Int.reduceMul, Int.reduceLE, Int.reduceLT, Int.reduceEq, Int.reduceToNat, reduceCtorEq, Ent.cells, Ent.v, IntKind.wrap_u8, kt, kl, elemsOf, elemOf, frzs, refs, refC, refsV]
  try simp -implicitDefEqProofs only [go_sem, Nat.reduceBEq, Nat.reduceAdd, Nat.reduceSub, Nat.reduceMul, Nat.reduceLeDiff, Nat.reduceEqDiff, Nat.reduceLT, Int.reduceNeg, Int.reduceAdd, Int.reduceSub, Int.reduceMul, Int.reduceLE, Int.reduceLT, Int.reduceEq, Int.reduceToNat, reduceCtorEq] at hl
  rw [hl]
  rcases own_cases k2 with ⟨cx, rfl⟩ | ⟨id, st, m, clip, rfl⟩ <;> simp -implicitDefEqProofs (disch := first | omega | assumption) only [go_sem, Nat.reduceBEq, Nat.reduceAdd, Nat.reduceSub, Nat.reduceMul, Nat.reduceLeDiff, Nat.reduceEqDiff, Nat.reduceLT, Int.reduceNeg, Int.reduceAdd, Int.reduceSub, Int.reduceMul, Int.reduceLE, Int.reduceLT, Int.reduceEq, Int.reduceToNat, reduceCtorEq, k1, resOk]
def entBytes (e : Ent) : List Int := if logOk [e] then frB (bodyB e) else []
-- find18
theorem own_EntryBytes (d : Nat) (e : Ent) (h1 : LimE [e]) : ∃ v hc ids, runD tab noExt (d + 10) 18 [.agg e.cells] [] = some ([v], hc) ∧ OwnF hc (.sub fdByte) v (.sub (byU (entBytes e))) ids ∧ ids.Nodup := by
  obtain ⟨_, e2, e3⟩ := h1.fine
  have hv1 := run_logI d true [e] e3 e2
  simp only [List.map_cons, List.map_nil, Ent.cells, Ent.v] at hv1
  unfold entBytes
  cases o1 : logOk [e]
  · rw [o1] at hv1
    refine ⟨.sl true 1 [], [.box e.cells], [], ?_, own_nil rfl, List.nodup_nil⟩
    rw [runD_eq find18 _ _ _ (by simp)]
    simp -implicitDefEqProofs (disch := omega) only [go_sem, Nat.reduceBEq, Nat.reduceAdd, Nat.reduceSub, Nat.reduceMul, Nat.reduceLeDiff, Nat.reduceEqDiff, Nat.reduceLT, Int.reduceNeg, Int.reduceAdd, Int.reduceSub, Int.reduceMul, Int.reduceLE, Int.reduceLT, Int.reduceEq, Int.reduceToNat, reduceCtorEq, Ent.cells, Ent.v, elemsOf, elemOf, frzs, refs, refC, refsV, hv1]
  · rw [o1] at hv1
    obtain ⟨v1, hc, is0, q1, q2, q3⟩ := own_entryBytes d e o1
    obtain ⟨w, hw, js, k1, k2, k3, k4, k5, k6⟩ := own_call (h := [.box e.cells]) (args := [.agg e.cells]) (by simp only [pureDAs, mapO, pureDA, pureD, deepest, Ent.cells, Ent.v, Option.map_some]) q1 q2 q3
    refine ⟨w, hw, js, ?_, k2, k3⟩
    simp only [Ent.cells, Ent.v] at k1
    rw [runD_eq find18 _ _ _ (by simp)]
    rcases own_cases k2 with ⟨cx, rfl⟩ | ⟨id, st, m, clip, rfl⟩ <;> simp -implicitDefEqProofs (disch := first | omega | assumption) only [go_sem, Nat.reduceBEq, Nat.reduceAdd, Nat.reduceSub, Nat.reduceMul, Nat.reduceLeDiff, Nat.reduceEqDiff, Nat.reduceLT, Int.reduceNeg, Int.reduceAdd, Int.reduceSub, Int.reduceMul, Int.reduceLE, Int.reduceLT, Int.reduceEq, Int.reduceToNat, reduceCtorEq, Ent.cells, Ent.v, elemsOf, elemOf, frzs, refs, refC, refsV, hv1, k1, resOk]
theorem loop_ebS (d : Nat) (t : Int) (c : Bool) (ws : List Wr) (hw5 : ws.length ≤ 5) (hok : ∀ w ∈ ws, w.one = true) (K : Nat) (hK : (ws).length ≤ K) (b0 : List Int) (hb0 : (fun (i : Nat) (b : List Int) => 2 ≤ b.length ∧ b.length ≤ 2 + 35 * i) 0 b0) : LoopS (runD tab noExt (d + 4)) (drawI (runD tab noExt (d + 4))) [1, 3, 4] [3] L64x0 ([.box [.int .i64 t, .sl c 3 (ws.map Wr.cells)], .rows 0 1 [], .rows ((b0).length - 2) 1 (u8s (b0))] : Heap).length K [(1, .ptr 0 0 0 0), (3, .ref 2 ((b0).length - 2) 0 (b0).length false), (4, .int .i64 (0 : Nat))] [.box [.int .i64 t, .sl c 3 (ws.map Wr.cells)], .rows 0 1 [], .rows ((b0).length - 2) 1 (u8s (b0))] = (some (.exit 0, [(3, .ref 2 ((((ws).foldl (fun b w => b ++ wrBytes w) b0)).length - 2) 0 (((ws).foldl (fun b w => b ++ wrBytes w) b0)).length false)], [.box [.int .i64 t, .sl c 3 (ws.map Wr.cells)], .rows 0 1 [], .rows ((((ws).foldl (fun b w => b ++ wrBytes w) b0)).length - 2) 1 (u8s (((ws).foldl (fun b w => b ++ wrBytes w) b0)))]) : Out) ∧ (fun (i : Nat) (b : List Int) => 2 ≤ b.length ∧ b.length ≤ 2 + 35 * i) (ws).length ((ws).foldl (fun b w => b ++ wrBytes w) b0) := by
  have key := LoopS_foldI (run := (runD tab noExt (d + 4))) (draw := drawI (runD tab noExt (d + 4))) (live := [1, 3, 4]) (out := [3]) (c := L64x0) (n0 := ([.box [.int .i64 t, .sl c 3 (ws.map Wr.cells)], .rows 0 1 [], .rows ((b0).length - 2) 1 (u8s (b0))] : Heap).length) (ws) (fun b w => b ++ wrBytes w) (fun (i : Nat) (b : List Int) => 2 ≤ b.length ∧ b.length ≤ 2 + 35 * i) (fun (i : Nat) (b : List Int) => [(1, .ptr 0 0 0 0), (3, .ref 2 ((b).length - 2) 0 (b).length false), (4, .int .i64 (i : Nat))]) (fun (i : Nat) (b : List Int) => [.box [.int .i64 t, .sl c 3 (ws.map Wr.cells)], .rows 0 1 [], .rows ((b).length - 2) 1 (u8s (b))]) (fun b => (some (.exit 0, [(3, .ref 2 ((b).length - 2) 0 (b).length false)], [.box [.int .i64 t, .sl c 3 (ws.map Wr.cells)], .rows 0 1 [], .rows ((b).length - 2) 1 (u8s (b))]) : Out)) (fun b K hb => ?_) (fun (i : Nat) (x : Wr) b K hi hx hb => ?_) K hK b0 hb0
  · simp only [Int.natCast_zero] at key
    exact key
  · rw [LoopS_eq]
    simp -implicitDefEqProofs only [go_sem, Nat.reduceBEq, Nat.reduceAdd, Nat.reduceSub, Nat.reduceMul, Nat.reduceLeDiff, Nat.reduceEqDiff, Nat.reduceLT, Int.reduceNeg, Int.reduceAdd, Int.reduceSub, Int.reduceMul, Int.reduceLE, Int.reduceLT, Int.reduceEq, Int.reduceToNat, reduceCtorEq, evL64x0, B64x0, Int.lt_irrefl]
  · have hxo := hok x (List.mem_of_getElem? hx); obtain ⟨o1, o2, o3⟩ := wr_one hxo; have hxl := rbytes_len o3; have sm1 : b.length + 2 < 4294967296 := (by have := hb.2; omega); have sm2 : b.length + (2 + (rowBytes x.row.vs).length) < 4294967296 := (by have := hb.2; omega); have hst : b.length - 2 + (2 + (rowBytes x.row.vs).length) = b.length + (2 + (rowBytes x.row.vs).length) - 2 := (by have := hb.1; omega); have hvx := run_rbytesS d x.row.clip x.row.vs o3; have kw1 : x.key % 256 = x.key := (by omega); have kw2 : goneI x.gone % 256 = goneI x.gone := (by have := goneI_in x.gone; omega)
    all_goals
      refine ⟨?_, ?_⟩
      · (rw [len_wr]; omega)
      · rw [LoopS_eq]
        simp -implicitDefEqProofs (disch := first | omega | assumption) only [go_sem, Nat.reduceBEq, Nat.reduceAdd, Nat.reduceSub, Nat.reduceMul, Nat.reduceLeDiff, Nat.reduceEqDiff, Nat.reduceLT, Int.reduceNeg, Int.reduceAdd, Int.reduceSub, Int.reduceMul, Int.reduceLE, Int.reduceLT, Int.reduceEq, Int.reduceToNat, reduceCtorEq, evL64x0, B64x0, hi, hx, IntWalk.i64_in, List.map_append, List.foldl_cons, evC_draw, evD64x0, E64x0, hx, hvx, run_l2B, Wr.cells, Row.v, len_wr, u8s_wr, u8s_len, hst, sm1, sm2, kw1, kw2, IntKind.wrap_u8, if_true, if_false, elemsOf, elemOf]
        skip
-- find64
theorem run_bodyS (d : Nat) (e : Ent) (h : logOk [e] = true) : retP (runD tab noExt (d + 5)) 64 [.agg e.cells] = some [.sl false 1 (u8s (bodyB e))] := by
  obtain ⟨h1, h2, h3⟩ := one_at h
  have hbl := body_len h
  obtain ⟨hl, hle, _⟩ := loop_ebS d e.time e.wc e.ws h3 h2 1099511627775 (by omega) [e.time, (e.ws.length : Int)] ⟨by simp, by simp⟩
  have hbe : bodyB e = e.ws.foldl (fun b w => b ++ wrBytes w) [e.time, (e.ws.length : Int)] := rfl
  rw [← hbe] at hl hle
  have hi0 : u8s [e.time, (e.ws.length : Int)] = [[.int .u8 e.time], [.int .u8 e.ws.length]] := rfl
  simp only [hi0, List.length_cons, List.length_nil, Int.natCast_zero] at hl
  have ht : List.take (bodyB e).length (u8s (bodyB e)) = u8s (bodyB e) := List.take_of_length_le (by rw [u8s_len]; omega)
  have kt : e.time % 256 = e.time := by omega
  have kl : (e.ws.length : Int) % 256 = e.ws.length := by omega
  rw [retP, runD_eq find64 _ _ _ (by simp)]
  simp -implicitDefEqProofs (disch := omega) only [go_sem, Nat.reduceBEq, Nat.reduceAdd, Nat.reduceSub, Nat.reduceMul, Nat.reduceLeDiff, Nat.reduceEqDiff, Nat.reduceLT, Int.reduceNeg, Int.reduceAdd, Int.reduceSub, Int.reduceMul, Int.reduceLE, Int.reduceLT, Int.reduceEq, Int.reduceToNat, reduceCtorEq, Ent.cells, Ent.v, IntKind.wrap_u8, kt, kl, elemsOf, elemOf, frzs, refs, refC, refsV]
  try simp -implicitDefEqProofs only [go_sem, Nat.reduceBEq, Nat.reduceAdd, Nat.reduceSub, Nat.reduceMul, Nat.reduceLeDiff, Nat.reduceEqDiff, Nat.reduceLT, Int.reduceNeg, Int.reduceAdd, Int.reduceSub, Int.reduceMul, Int.reduceLE, Int.reduceLT, Int.reduceEq, Int.reduceToNat, reduceCtorEq] at hl
  rw [hl]
  simp -implicitDefEqProofs (disch := omega) only [go_sem, Nat.reduceBEq, Nat.reduceAdd, Nat.reduceSub, Nat.reduceMul, Nat.reduceLeDiff, Nat.reduceEqDiff, Nat.reduceLT, Int.reduceNeg, Int.reduceAdd, Int.reduceSub, Int.reduceMul, Int.reduceLE, Int.reduceLT, Int.reduceEq, Int.reduceToNat, reduceCtorEq, ht]
-- find16
theorem run_EntryBytesS (d : Nat) (e : Ent) (h1 : LimE [e]) : retP (runD tab noExt (d + 6)) 16 [.agg e.cells] = some [.sl false 1 (u8s (entBytes e))] := by
  obtain ⟨_, e2, e3⟩ := h1.fine
  have hv1 := run_logS d true [e] e3 e2
  simp only [List.map_cons, List.map_nil, Ent.cells, Ent.v] at hv1
  unfold entBytes
  cases o1 : logOk [e]
  · rw [o1] at hv1
    rw [retP, runD_eq find16 _ _ _ (by simp)]
    simp -implicitDefEqProofs (disch := omega) only [go_sem, Nat.reduceBEq, Nat.reduceAdd, Nat.reduceSub, Nat.reduceMul, Nat.reduceLeDiff, Nat.reduceEqDiff, Nat.reduceLT, Int.reduceNeg, Int.reduceAdd, Int.reduceSub, Int.reduceMul, Int.reduceLE, Int.reduceLT, Int.reduceEq, Int.reduceToNat, reduceCtorEq, Ent.cells, Ent.v, elemsOf, elemOf, frzs, refs, refC, refsV, hv1, u8s_nil, Bool.false_eq_true, if_false]
  · rw [o1] at hv1
    have hb := run_bodyS d e o1
    have hbl := body_len o1
    have hs := run_sumS (d + 4) false (bodyB e) (by omega) (in_body o1)
    simp only [Ent.cells, Ent.v] at hb
    have q1 : ((bodyB e).length : Int).tdiv 256 = (bodyB e).length / 256 := tdiv256 (by omega)
    have q2 : (((bodyB e).length : Int) / 256) % 256 = (bodyB e).length / 256 := mod_div (by omega)
    have q3 : ((bodyB e).length : Int).tmod 256 = (bodyB e).length % 256 := tmod256 (by omega)
    have cm : (2 + (bodyB e).length = (bodyB e).length + 2) = True := eq_true (by omega)
    have sm1 : 2 + (bodyB e).length < 4294967296 := by omega
    have sm2 : 2 + ((bodyB e).length + 1) < 4294967296 := by omega
    have ht : List.take (2 + ((bodyB e).length + 1)) (u8s (frB (bodyB e))) = u8s (frB (bodyB e)) := List.take_of_length_le (by rw [u8s_len]; simp [frB]; omega)
    rw [u8s_fr] at ht
    simp only [if_true, u8s_fr]
    rw [retP, runD_eq find16 _ _ _ (by simp)]
    simp -implicitDefEqProofs (disch := omega) only [go_sem, Nat.reduceBEq, Nat.reduceAdd, Nat.reduceSub, Nat.reduceMul, Nat.reduceLeDiff, Nat.reduceEqDiff, Nat.reduceLT, Int.reduceNeg, Int.reduceAdd, Int.reduceSub, Int.reduceMul, Int.reduceLE, Int.reduceLT, Int.reduceEq, Int.reduceToNat, reduceCtorEq, Ent.cells, Ent.v, hv1, hb, hs, u8s_len, IntKind.wrap_u8, IntWalk.i64_in, mod_mod, q1, q2, q3, cm, sm1, sm2, ht, elemsOf, elemOf, frzs, refs, refC, refsV]
end Go.Proofs.Yteaojpfofifmnaa.PE
/- Values read out of bytes: the reference. -/
set_option linter.unusedSimpArgs false
set_option linter.unusedVariables false
set_option maxHeartbeats 8000000
set_option maxRecDepth 20000
namespace Go.Proofs.Yteaojpfofifmnaa.PE
open Go.RowKit

-- find145
end Go.Proofs.Yteaojpfofifmnaa.PE
/- Rows read out of bytes: both functions. -/
set_option linter.unusedSimpArgs false
set_option linter.unusedVariables false
set_option maxHeartbeats 8000000
set_option maxRecDepth 20000
namespace Go.Proofs.Yteaojpfofifmnaa.PE
open Go.RowKit

def vsFrom : Nat → List UInt8 → Option (List Val × Nat)
  | 0, _ => some ([], 0)
  | m + 1, b => if (vFrom b).2 = 0 then none else match vsFrom m (b.drop (vFrom b).2) with
    | none => none
    | some (vs, n) => some ((vFrom b).1 :: vs, (vFrom b).2 + n)
def rFrom : List UInt8 → List Val × Nat
  | [] => ([], 0)
  | k :: r => if 4 < k.toNat then ([], 0) else match vsFrom k.toNat r with
    | none => ([], 0)
    | some (vs, n) => (vs, 1 + n)
theorem vChk_le {v : Val} {n m : Nat} (h : n ≤ m) : (vChk v n).2 ≤ m := by
  unfold vChk
  split
  · exact h
  · exact Nat.zero_le _
theorem vFrom_le : ∀ (b : List UInt8), (vFrom b).2 ≤ b.length
  | [] => Nat.le_refl _
  | [k] => by
    simp only [vFrom, List.length_cons, List.length_nil]
    split <;> simp
  | k :: x :: r => by
    simp only [vFrom, List.length_cons]
    by_cases k0 : k.toNat = 0
    · rw [if_pos k0]; simp
    rw [if_neg k0]
    by_cases k1 : k.toNat = 1
    · rw [if_pos k1]
      match r with
      | [] => simp
      | y :: r => exact vChk_le (by simp only [List.length_cons]; omega)
    rw [if_neg k1]
    by_cases k2 : k.toNat = 2
    · rw [if_pos k2]
      by_cases h : x.toNat ≤ r.length
      · rw [if_pos h]; exact vChk_le (by omega)
      · rw [if_neg h]; simp
    rw [if_neg k2]
    by_cases k3 : k.toNat = 3
    · rw [if_pos k3]; exact vChk_le (by omega)
    · rw [if_neg k3]; simp
-- find31
theorem loop_rfI (d : Nat) (c : Bool) (b : List UInt8) (hb : b.length < 1099511627776) (kk : Nat) (hk : kk ≤ 4) : ∀ (m i p : Nat) (row : List Val), i + m = kk → p ≤ b.length → row.length = i → ∀ K, m ≤ K →
    match vsFrom m (b.drop p) with
    | none => ∃ (p' : Nat) (row' : List Val), LoopS (runD tab noExt (d + 5)) (drawI (runD tab noExt (d + 5))) [0, 4, 5, 20, 21] [2, 3, 4, 5] L31x0 1 K [(0, .sl c 1 (cellsOfBytes b)), (4, .int .i64 p), (5, .ref 0 i 0 i false), (20, .int .i64 kk), (21, .int .i64 i)] [.rows i 3 (row.map Val.cells)] = some (.ret, [(2, .sl true 3 []), (3, .int .i64 0), (4, .int .i64 p'), (5, .ref 0 row'.length 0 row'.length false)], [.rows row'.length 3 (row'.map Val.cells)])
    | some (vs, n) => LoopS (runD tab noExt (d + 5)) (drawI (runD tab noExt (d + 5))) [0, 4, 5, 20, 21] [2, 3, 4, 5] L31x0 1 K [(0, .sl c 1 (cellsOfBytes b)), (4, .int .i64 p), (5, .ref 0 i 0 i false), (20, .int .i64 kk), (21, .int .i64 i)] [.rows i 3 (row.map Val.cells)] = some (.exit 0, [(2, .undef), (3, .undef), (4, .int .i64 (p + n : Nat)), (5, .ref 0 kk 0 kk false)], [.rows kk 3 ((row ++ vs).map Val.cells)])
  | 0, i, p, row, hi, hp, hr, K, hK => by
    have e : i = kk := by omega
    subst e
    simp only [vsFrom]
    rw [LoopS_eq]
    simp -implicitDefEqProofs only [go_sem, Nat.reduceBEq, Nat.reduceAdd, Nat.reduceSub, Nat.reduceMul, Nat.reduceLeDiff, Nat.reduceEqDiff, Nat.reduceLT, Int.reduceNeg, Int.reduceAdd, Int.reduceSub, Int.reduceMul, Int.reduceLE, Int.reduceLT, Int.reduceEq, Int.reduceToNat, reduceCtorEq, evL31x0, B31x0, Int.lt_irrefl, List.append_nil, Nat.add_zero]
  | m + 1, i, p, row, hi, hp, hr, K, hK => by
    obtain ⟨K, rfl⟩ : ∃ k', K = k' + 1 := ⟨K - 1, by omega⟩
    have hlt : (i : Int) < kk := by omega
    have hpl : (p : Int) ≤ b.length := by omega
    have hv := run_vFromI (d + 1) c (b.drop p) (by rw [List.length_drop]; omega)
    have htk : List.take (b.length - p) (b.drop p) = b.drop p := List.take_of_length_le (by simp)
    simp only [Val.cells] at hv
    have hle := vFrom_le (b.drop p)
    rw [List.length_drop] at hle
    simp only [vsFrom]
    by_cases h0 : (vFrom (b.drop p)).2 = 0
    · have h0' : ((vFrom (b.drop p)).2 : Int) = 0 := by omega
      rw [if_pos h0]
      refine ⟨p, row, ?_⟩
      rw [LoopS_eq]
      simp -implicitDefEqProofs (disch := omega) only [go_sem, Nat.reduceBEq, Nat.reduceAdd, Nat.reduceSub, Nat.reduceMul, Nat.reduceLeDiff, Nat.reduceEqDiff, Nat.reduceLT, Int.reduceNeg, Int.reduceAdd, Int.reduceSub, Int.reduceMul, Int.reduceLE, Int.reduceLT, Int.reduceEq, Int.reduceToNat, reduceCtorEq, evL31x0, B31x0, hlt, hpl, cob_drop, cob_len, cob_take, htk, hv, h0', hr, Val.cells]
    · have h0' : (((vFrom (b.drop p)).2 : Int) = 0) = False := eq_false (by omega)
      rw [if_neg h0]
      have ih := loop_rfI d c b hb kk hk m (i + 1) (p + (vFrom (b.drop p)).2) (row ++ [(vFrom (b.drop p)).1]) (by omega) (by omega) (by simp [hr]) K (by omega)
      rw [← List.drop_drop] at ih
      have hsm : i + 1 < 4294967296 := by omega
      revert ih
      generalize vsFrom m (List.drop (vFrom (b.drop p)).2 (b.drop p)) = R
      intro ih
      have step : LoopS (runD tab noExt (d + 5)) (drawI (runD tab noExt (d + 5))) [0, 4, 5, 20, 21] [2, 3, 4, 5] L31x0 1 (K + 1) [(0, .sl c 1 (cellsOfBytes b)), (4, .int .i64 p), (5, .ref 0 i 0 i false), (20, .int .i64 kk), (21, .int .i64 i)] [.rows i 3 (row.map Val.cells)] = LoopS (runD tab noExt (d + 5)) (drawI (runD tab noExt (d + 5))) [0, 4, 5, 20, 21] [2, 3, 4, 5] L31x0 1 K [(0, .sl c 1 (cellsOfBytes b)), (4, .int .i64 (p + (vFrom (b.drop p)).2 : Nat)), (5, .ref 0 (i + 1) 0 (i + 1) false), (20, .int .i64 kk), (21, .int .i64 (i + 1 : Nat))] [.rows (i + 1) 3 ((row ++ [(vFrom (b.drop p)).1]).map Val.cells)] := by
        rw [LoopS_eq]
        simp -implicitDefEqProofs (disch := omega) only [go_sem, Nat.reduceBEq, Nat.reduceAdd, Nat.reduceSub, Nat.reduceMul, Nat.reduceLeDiff, Nat.reduceEqDiff, Nat.reduceLT, Int.reduceNeg, Int.reduceAdd, Int.reduceSub, Int.reduceMul, Int.reduceLE, Int.reduceLT, Int.reduceEq, Int.reduceToNat, reduceCtorEq, evL31x0, B31x0, hlt, hpl, cob_drop, cob_len, cob_take, htk, hv, h0', hr, hsm, Val.cells, List.map_append, IntWalk.i64_in, elemsOf, elemOf]
      rw [step]
      cases R with
      | none => exact ih
      | some q => simpa only [List.append_assoc, List.singleton_append, Nat.add_assoc] using ih
end Go.Proofs.Yteaojpfofifmnaa.PE
/- Rows read out of bytes: the reference's loop. -/
set_option linter.unusedSimpArgs false
set_option linter.unusedVariables false
set_option maxHeartbeats 8000000
set_option maxRecDepth 20000
namespace Go.Proofs.Yteaojpfofifmnaa.PE
open Go.RowKit

-- find132
end Go.Proofs.Yteaojpfofifmnaa.PE
/- Rows read out of bytes: both functions. -/
set_option linter.unusedSimpArgs false
set_option linter.unusedVariables false
set_option maxHeartbeats 8000000
set_option maxRecDepth 20000
namespace Go.Proofs.Yteaojpfofifmnaa.PE
open Go.RowKit

theorem vsFrom_len : ∀ (m : Nat) (b : List UInt8) {vs : List Val} {n : Nat}, vsFrom m b = some (vs, n) → vs.length = m := by
  intro m
  induction m with
  | zero => intro b vs n h; simp only [vsFrom, Option.some.injEq, Prod.mk.injEq] at h; rw [← h.1]; rfl
  | succ m ih =>
    intro b vs n h
    simp only [vsFrom] at h
    split at h
    · cases h
    · split at h
      · cases h
      · rename_i h2
        simp only [Option.some.injEq, Prod.mk.injEq] at h
        rw [← h.1, List.length_cons, ih _ h2]
theorem vsFrom_le : ∀ (m : Nat) (b : List UInt8) {vs : List Val} {n : Nat}, vsFrom m b = some (vs, n) → n ≤ b.length := by
  intro m
  induction m with
  | zero => intro b vs n h; simp only [vsFrom, Option.some.injEq, Prod.mk.injEq] at h; omega
  | succ m ih =>
    intro b vs n h
    simp only [vsFrom] at h
    split at h
    · cases h
    · split at h
      · cases h
      · rename_i h2
        simp only [Option.some.injEq, Prod.mk.injEq] at h
        have h3 := ih _ h2
        have h4 := vFrom_le b
        rw [List.length_drop] at h3
        omega
theorem rFrom_eq {k : UInt8} {r : List UInt8} (h4 : ¬ 4 < k.toNat) : rFrom (k :: r) = match vsFrom k.toNat r with | none => ([], 0) | some (vs, n) => (vs, 1 + n) := by rw [rFrom, if_neg h4]; try (cases vsFrom k.toNat r <;> rfl)
theorem rFrom_le (b : List UInt8) : (rFrom b).2 ≤ b.length := by
  match b with
  | [] => exact Nat.le_refl _
  | k :: r =>
    by_cases h4 : 4 < k.toNat
    · rw [rFrom, if_pos h4]; simp
    · rw [rFrom_eq h4]
      cases h : vsFrom k.toNat r with
      | none => simp
      | some q =>
        have := vsFrom_le _ _ h
        simp only [List.length_cons]
        omega
-- find132
theorem own_rowFrom (d : Nat) (c : Bool) (b : List UInt8) (hb : b.length < 1099511627776) : ∃ v hc ids, runD tab noExt (d + 6) 31 [.sl c 1 (cellsOfBytes b)] [] = some ([v, .int .i64 (rFrom b).2], hc) ∧ OwnF hc (.sub fdValue) v (.sub ((rFrom b).1.map valU)) ids ∧ ids.Nodup := by
  match b, hb with
  | [], _ =>
    refine ⟨.sl true 3 [], [], [], ?_, own_nil rfl, List.nodup_nil⟩
    rw [runD_eq find31 _ _ _ (by simp)]
    simp -implicitDefEqProofs (disch := omega) only [go_sem, Nat.reduceBEq, Nat.reduceAdd, Nat.reduceSub, Nat.reduceMul, Nat.reduceLeDiff, Nat.reduceEqDiff, Nat.reduceLT, Int.reduceNeg, Int.reduceAdd, Int.reduceSub, Int.reduceMul, Int.reduceLE, Int.reduceLT, Int.reduceEq, Int.reduceToNat, reduceCtorEq, cob_nil, rFrom]
  | k :: r, hb =>
    have hk := k.toNat_lt
    have l0 : ((r.length : Int) + 1 = 0) = False := eq_false (by omega)
    by_cases h4 : 4 < k.toNat
    · have h4' : (4 : Int) < k.toNat := by omega
      have e : rFrom (k :: r) = ([], 0) := by rw [rFrom, if_pos h4]
      rw [e]
      refine ⟨.sl true 3 [], [], [], ?_, own_nil rfl, List.nodup_nil⟩
      rw [runD_eq find31 _ _ _ (by simp)]
      simp -implicitDefEqProofs (disch := omega) only [go_sem, Nat.reduceBEq, Nat.reduceAdd, Nat.reduceSub, Nat.reduceMul, Nat.reduceLeDiff, Nat.reduceEqDiff, Nat.reduceLT, Int.reduceNeg, Int.reduceAdd, Int.reduceSub, Int.reduceMul, Int.reduceLE, Int.reduceLT, Int.reduceEq, Int.reduceToNat, reduceCtorEq, l0, cob_cons, cob_len, IntWalk.i64_in, h4']
    · have h4' : ((4 : Int) < k.toNat) = False := eq_false (by omega)
      have hl := loop_rfI d c (k :: r) hb k.toNat (by omega) k.toNat 0 1 [] (by omega) (by simp) rfl 1099511627775 (by omega)
      simp only [List.drop_succ_cons, List.drop_zero, List.map_nil, List.nil_append, Int.natCast_zero, Int.natCast_one, cob_cons] at hl
      rw [rFrom_eq h4]
      revert hl
      generalize hR : vsFrom k.toNat r = R
      intro hl
      cases R with
      | none =>
        obtain ⟨p', row', hl⟩ := hl
        refine ⟨.sl true 3 [], [.rows row'.length 3 (row'.map Val.cells)], [], ?_, own_nil rfl, List.nodup_nil⟩
        rw [runD_eq find31 _ _ _ (by simp)]
        simp -implicitDefEqProofs (disch := omega) only [go_sem, Nat.reduceBEq, Nat.reduceAdd, Nat.reduceSub, Nat.reduceMul, Nat.reduceLeDiff, Nat.reduceEqDiff, Nat.reduceLT, Int.reduceNeg, Int.reduceAdd, Int.reduceSub, Int.reduceMul, Int.reduceLE, Int.reduceLT, Int.reduceEq, Int.reduceToNat, reduceCtorEq, l0, cob_cons, cob_len, IntWalk.i64_in, h4']
        try simp only at hl
        try simp -implicitDefEqProofs only [go_sem, Nat.reduceBEq, Nat.reduceAdd, Nat.reduceSub, Nat.reduceMul, Nat.reduceLeDiff, Nat.reduceEqDiff, Nat.reduceLT, Int.reduceNeg, Int.reduceAdd, Int.reduceSub, Int.reduceMul, Int.reduceLE, Int.reduceLT, Int.reduceEq, Int.reduceToNat, reduceCtorEq] at hl
        rw [hl]
        simp -implicitDefEqProofs (disch := omega) only [go_sem, Nat.reduceBEq, Nat.reduceAdd, Nat.reduceSub, Nat.reduceMul, Nat.reduceLeDiff, Nat.reduceEqDiff, Nat.reduceLT, Int.reduceNeg, Int.reduceAdd, Int.reduceSub, Int.reduceMul, Int.reduceLE, Int.reduceLT, Int.reduceEq, Int.reduceToNat, reduceCtorEq]
      | some q =>
        obtain ⟨vs, n⟩ := q
        have hlen := vsFrom_len _ _ hR
        have ht : List.take k.toNat (vs.map Val.cells) = vs.map Val.cells := List.take_of_length_le (by rw [List.length_map]; omega)
        obtain ⟨v1, hc, is0, q1, q2, q3⟩ := own_cloneVal (d + 3) false vs (by omega)
        obtain ⟨w, hw, js, k1, k2, k3, k4, k5, k6⟩ := own_call (h := [.rows k.toNat 3 (vs.map Val.cells)]) (args := [.ref 0 k.toNat 0 k.toNat false]) (by simp only [pureDAs, mapO, pureDA, pureD, deepest, List.getElem?_cons_zero, if_true, List.drop_zero, ht]) q1 q2 q3
        refine ⟨w, hw, js, ?_, k2, k3⟩
        rw [runD_eq find31 _ _ _ (by simp)]
        simp -implicitDefEqProofs (disch := omega) only [go_sem, Nat.reduceBEq, Nat.reduceAdd, Nat.reduceSub, Nat.reduceMul, Nat.reduceLeDiff, Nat.reduceEqDiff, Nat.reduceLT, Int.reduceNeg, Int.reduceAdd, Int.reduceSub, Int.reduceMul, Int.reduceLE, Int.reduceLT, Int.reduceEq, Int.reduceToNat, reduceCtorEq, l0, cob_cons, cob_len, IntWalk.i64_in, h4']
        try simp only at hl
        try simp -implicitDefEqProofs only [go_sem, Nat.reduceBEq, Nat.reduceAdd, Nat.reduceSub, Nat.reduceMul, Nat.reduceLeDiff, Nat.reduceEqDiff, Nat.reduceLT, Int.reduceNeg, Int.reduceAdd, Int.reduceSub, Int.reduceMul, Int.reduceLE, Int.reduceLT, Int.reduceEq, Int.reduceToNat, reduceCtorEq] at hl
        rw [hl]
        rcases own_cases k2 with ⟨cx, rfl⟩ | ⟨id, st, m, clip, rfl⟩ <;> simp -implicitDefEqProofs (disch := first | omega | assumption) only [go_sem, Nat.reduceBEq, Nat.reduceAdd, Nat.reduceSub, Nat.reduceMul, Nat.reduceLeDiff, Nat.reduceEqDiff, Nat.reduceLT, Int.reduceNeg, Int.reduceAdd, Int.reduceSub, Int.reduceMul, Int.reduceLE, Int.reduceLT, Int.reduceEq, Int.reduceToNat, reduceCtorEq, k1, resOk]
end Go.Proofs.Yteaojpfofifmnaa.PE
/- Frames read: the body of bytes. -/
set_option linter.unusedSimpArgs false
set_option linter.unusedVariables false
set_option maxHeartbeats 8000000
set_option maxRecDepth 20000
namespace Go.Proofs.Yteaojpfofifmnaa.PE
open Go.RowKit

def toI (l : List UInt8) : List Int := l.map fun b => (b.toNat : Int)
theorem cob_u8s (l : List UInt8) : cellsOfBytes l = u8s (toI l) := by simp [cellsOfBytes, u8s, toI]
theorem toI_len (l : List UInt8) : (toI l).length = l.length := List.length_map _
theorem toI_in (l : List UInt8) : ∀ x ∈ toI l, 0 ≤ x ∧ x < 256 := by
  intro x hx
  obtain ⟨b, _, rfl⟩ := List.mem_map.1 hx
  have := b.toNat_lt
  omega
def sumC (l : List UInt8) : Int := sumB (toI l)
theorem run_sumIC (d : Nat) (c : Bool) (l : List UInt8) (hl : l.length < 65536) : retP (runD tab noExt (d + 1)) 120 [.sl c 1 (cellsOfBytes l)] = some [.int .u8 (sumC l)] := by
  rw [cob_u8s]
  exact run_sumI d c (toI l) (by rw [toI_len]; exact hl) (toI_in l)
/-- The body that bytes begin with: how many bytes it has and what they are. -/
def unF : List UInt8 → Option (List UInt8 × Nat)
  | x :: y :: r => if r.length < 256 * x.toNat + y.toNat + 1 then none else if sumC (r.take (256 * x.toNat + y.toNat)) = ((r.getD (256 * x.toNat + y.toNat) 0).toNat : Int) then some (r.take (256 * x.toNat + y.toNat), 256 * x.toNat + y.toNat + 3) else none
  | _ => none
-- find75
theorem run_unframed (d : Nat) (c : Bool) (b : List UInt8) (hb : b.length < 1099511627776) : ∃ c', retP (runD tab noExt (d + 2)) 75 [.sl c 1 (cellsOfBytes b)] = some (match unF b with | none => [.sl true 1 [], .int .i64 0] | some (l, n) => [.sl c' 1 (cellsOfBytes l), .int .i64 n]) := by
  match b, hb with
  | [], _ =>
    refine ⟨true, ?_⟩
    rw [retP, runD_eq find75 _ _ _ (by simp)]
    simp -implicitDefEqProofs (disch := omega) only [go_sem, Nat.reduceBEq, Nat.reduceAdd, Nat.reduceSub, Nat.reduceMul, Nat.reduceLeDiff, Nat.reduceEqDiff, Nat.reduceLT, Int.reduceNeg, Int.reduceAdd, Int.reduceSub, Int.reduceMul, Int.reduceLE, Int.reduceLT, Int.reduceEq, Int.reduceToNat, reduceCtorEq, cob_nil, unF]
  | [x], _ =>
    refine ⟨true, ?_⟩
    rw [retP, runD_eq find75 _ _ _ (by simp)]
    simp -implicitDefEqProofs (disch := omega) only [go_sem, Nat.reduceBEq, Nat.reduceAdd, Nat.reduceSub, Nat.reduceMul, Nat.reduceLeDiff, Nat.reduceEqDiff, Nat.reduceLT, Int.reduceNeg, Int.reduceAdd, Int.reduceSub, Int.reduceMul, Int.reduceLE, Int.reduceLT, Int.reduceEq, Int.reduceToNat, reduceCtorEq, cob_cons, cob_nil, unF]
  | x :: y :: r, hb =>
    have hx := x.toNat_lt
    have hy := y.toNat_lt
    have hn : (x.toNat : Int) * 256 + y.toNat = (256 * x.toNat + y.toNat : Nat) := by omega
    by_cases h3 : (r.length : Int) + 2 < 3
    · refine ⟨true, ?_⟩
      rw [unF, if_pos (by omega)]
      rw [retP, runD_eq find75 _ _ _ (by simp)]
      simp -implicitDefEqProofs (disch := omega) only [go_sem, Nat.reduceBEq, Nat.reduceAdd, Nat.reduceSub, Nat.reduceMul, Nat.reduceLeDiff, Nat.reduceEqDiff, Nat.reduceLT, Int.reduceNeg, Int.reduceAdd, Int.reduceSub, Int.reduceMul, Int.reduceLE, Int.reduceLT, Int.reduceEq, Int.reduceToNat, reduceCtorEq, cob_cons, cob_len, h3]
    · have h3' := eq_false h3
      generalize hN : 256 * x.toNat + y.toNat = n at hn
      have hn6 : n < 65536 := by omega
      by_cases h4 : r.length < n + 1
      · have h4' : (r.length : Int) + 2 < (n : Int) + 3 := by omega
        refine ⟨true, ?_⟩
        rw [unF, hN, if_pos h4]
        rw [retP, runD_eq find75 _ _ _ (by simp)]
        simp -implicitDefEqProofs (disch := omega) only [go_sem, Nat.reduceBEq, Nat.reduceAdd, Nat.reduceSub, Nat.reduceMul, Nat.reduceLeDiff, Nat.reduceEqDiff, Nat.reduceLT, Int.reduceNeg, Int.reduceAdd, Int.reduceSub, Int.reduceMul, Int.reduceLE, Int.reduceLT, Int.reduceEq, Int.reduceToNat, reduceCtorEq, evC_draw, evD75x0, E75x0, evC_draw, evD75x1, E75x1, cob_cons, cob_len, IntWalk.i64_in, pow8', hn, h3', h4']
      · have h4' : ((r.length : Int) + 2 < (n : Int) + 3) = False := eq_false (by omega)
        have hs : ∀ c, retP (runD tab noExt (d + 1)) 120 [.sl c 1 (cellsOfBytes (r.take n))] = some [.int .u8 (sumC (r.take n))] := fun c => run_sumIC d c (r.take n) (by rw [List.length_take]; omega)
        have hx1 : (cellsOfBytes r)[n]? = some [.int .u8 (r.getD n 0).toNat] := by
          rw [List.getD_eq_getElem?_getD, List.getElem?_eq_getElem (show n < r.length by omega)]
          exact ofBytes_at (List.getElem?_eq_getElem (by omega))
        have f1 : (0 ≤ (n : Int) + 2 ∧ (n : Int) + 2 ≤ (r.length : Int) + 2) = True := eq_true (by omega)
        have f2 : ((2 : Int) ≤ (n : Int) + 2) = True := eq_true (by omega)
        have f3 : ((n : Int) + 2).toNat - 2 = n := by omega
        have f4 : ((n : Int) + 2).toNat = n + 2 := by omega
        have f5 : (0 ≤ (n : Int) + 2 ∧ (n : Int) + 2 < (r.length : Int) + 2) = True := eq_true (by omega)
        have f6 : ((n : Int) + 2 ≤ (r.length : Int) + 2) = True := eq_true (by omega)
        have f7 : ((n : Int) + 2 < (r.length : Int) + 2) = True := eq_true (by omega)
        have f8 : (0 ≤ (n : Int) + 2) = True := eq_true (by omega)
        have e : unF (x :: y :: r) = if sumC (r.take n) = ((r.getD n 0).toNat : Int) then some (r.take n, n + 3) else none := by rw [unF, hN, if_neg h4]
        rw [e]
        by_cases hq : sumC (r.take n) = ((r.getD n 0).toNat : Int)
        · refine ⟨c && decide ((n : Int) + 2 = r.length + 2), ?_⟩
          rw [if_pos hq, retP, runD_eq find75 _ _ _ (by simp)]
          simp -implicitDefEqProofs (disch := omega) only [go_sem, Nat.reduceBEq, Nat.reduceAdd, Nat.reduceSub, Nat.reduceMul, Nat.reduceLeDiff, Nat.reduceEqDiff, Nat.reduceLT, Int.reduceNeg, Int.reduceAdd, Int.reduceSub, Int.reduceMul, Int.reduceLE, Int.reduceLT, Int.reduceEq, Int.reduceToNat, reduceCtorEq, evC_draw, evD75x0, E75x0, evC_draw, evD75x1, E75x1, cob_cons, cob_len, cob_take, cob_drop, IntWalk.i64_in, pow8', hn, h3', h4', hs, hx1, f1, f2, f3, f4, f5, f6, f7, f8, Nat.add_sub_cancel, hq]
        · refine ⟨true, ?_⟩
          have hq' : (sumC (r.take n) = ((r.getD n 0).toNat : Int)) = False := eq_false hq
          rw [if_neg hq, retP, runD_eq find75 _ _ _ (by simp)]
          simp -implicitDefEqProofs (disch := omega) only [go_sem, Nat.reduceBEq, Nat.reduceAdd, Nat.reduceSub, Nat.reduceMul, Nat.reduceLeDiff, Nat.reduceEqDiff, Nat.reduceLT, Int.reduceNeg, Int.reduceAdd, Int.reduceSub, Int.reduceMul, Int.reduceLE, Int.reduceLT, Int.reduceEq, Int.reduceToNat, reduceCtorEq, evC_draw, evD75x0, E75x0, evC_draw, evD75x1, E75x1, cob_cons, cob_len, cob_take, cob_drop, IntWalk.i64_in, pow8', hn, h3', h4', hs, hx1, f1, f2, f3, f4, f5, f6, f7, f8, Nat.add_sub_cancel, hq']
end Go.Proofs.Yteaojpfofifmnaa.PE
/- What is read is written back as the bytes that it took. -/
set_option linter.unusedSimpArgs false
set_option linter.unusedVariables false
namespace Go.Proofs.Yteaojpfofifmnaa.PE
open Go.RowKit

theorem toI_cons (k : UInt8) (r : List UInt8) : toI (k :: r) = (k.toNat : Int) :: toI r := rfl
theorem vChk_some {v : Val} {n : Nat} (h : (vChk v n).2 ≠ 0) : v.ok = true ∧ vChk v n = (v, n) := by
  unfold vChk at h ⊢
  split at h
  · rename_i ho; rw [if_pos ho]; exact ⟨ho, rfl⟩
  · exact absurd rfl h
theorem zero_ok : Val.zero.ok = true := by decide
theorem vFrom_bytes : ∀ (b : List UInt8), (vFrom b).2 ≠ 0 → (vFrom b).1.ok = true ∧ toI (b.take (vFrom b).2) = (vFrom b).1.bytes
  | [], h => absurd rfl h
  | [k], h => by
    simp only [vFrom] at h ⊢
    by_cases k0 : k.toNat = 0
    · rw [if_pos k0]
      refine ⟨zero_ok, ?_⟩
      show [(k.toNat : Int)] = [0]
      rw [k0]; rfl
    · rw [if_neg k0] at h; exact absurd rfl h
  | k :: x :: r, h => by
    simp only [vFrom] at h ⊢
    by_cases k0 : k.toNat = 0
    · rw [if_pos k0]
      refine ⟨zero_ok, ?_⟩
      show [(k.toNat : Int)] = [0]
      rw [k0]; rfl
    rw [if_neg k0] at h ⊢
    by_cases k1 : k.toNat = 1
    · rw [if_pos k1] at h ⊢
      match r, h with
      | [], h => exact absurd rfl h
      | y :: r, h =>
        simp only at h ⊢
        obtain ⟨h1, h2⟩ := vChk_some h
        have hx := x.toNat_lt
        have hy := y.toNat_lt
        rw [h2]
        refine ⟨h1, ?_⟩
        show [(k.toNat : Int), x.toNat, y.toNat] = [1, ((x.toNat : Int) * 256 + y.toNat - 10000 + 10000) / 256, ((x.toNat : Int) * 256 + y.toNat - 10000 + 10000) % 256]
        have e1 : ((x.toNat : Int) * 256 + y.toNat - 10000 + 10000) / 256 = x.toNat := by omega
        have e2 : ((x.toNat : Int) * 256 + y.toNat - 10000 + 10000) % 256 = y.toNat := by omega
        rw [e1, e2, k1]; rfl
    rw [if_neg k1] at h ⊢
    by_cases k2 : k.toNat = 2
    · rw [if_pos k2] at h ⊢
      by_cases hxr : x.toNat ≤ r.length
      · rw [if_pos hxr] at h ⊢
        obtain ⟨h1, h2⟩ := vChk_some h
        rw [h2]
        refine ⟨h1, ?_⟩
        show toI ((k :: x :: r).take (2 + x.toNat)) = 2 :: ((toS (r.take x.toNat)).size : Int) :: strB (toS (r.take x.toNat))
        have e : (k :: x :: r).take (2 + x.toNat) = k :: x :: r.take x.toNat := by rw [Nat.add_comm]; rfl
        rw [e, toI_cons, toI_cons, toS_size, k2, List.length_take, Nat.min_eq_left hxr]
        rfl
      · rw [if_neg hxr] at h; exact absurd rfl h
    rw [if_neg k2] at h ⊢
    by_cases k3 : k.toNat = 3
    · rw [if_pos k3] at h ⊢
      obtain ⟨h1, h2⟩ := vChk_some h
      rw [h2]
      refine ⟨h1, ?_⟩
      show [(k.toNat : Int), (x.toNat : Int)] = [3, (x.toNat : Int)]
      rw [k3]; rfl
    · rw [if_neg k3] at h; exact absurd rfl h
theorem toI_app (a b : List UInt8) : toI (a ++ b) = toI a ++ toI b := List.map_append
theorem take_add' {α : Type} (l : List α) (n m : Nat) : l.take (n + m) = l.take n ++ (l.drop n).take m := List.take_add
theorem vsFrom_bytes : ∀ (m : Nat) (b : List UInt8) {vs : List Val} {n : Nat}, vsFrom m b = some (vs, n) → (∀ v ∈ vs, v.ok = true) ∧ toI (b.take n) = vs.flatMap Val.bytes
  | 0, b, vs, n, h => by
    simp only [vsFrom, Option.some.injEq, Prod.mk.injEq] at h
    obtain ⟨rfl, rfl⟩ := h
    exact ⟨(fun v hv => by cases hv), rfl⟩
  | m + 1, b, vs, n, h => by
    simp only [vsFrom] at h
    split at h
    · cases h
    · rename_i h0
      split at h
      · cases h
      · rename_i vs' n' h2
        simp only [Option.some.injEq, Prod.mk.injEq] at h
        obtain ⟨rfl, rfl⟩ := h
        obtain ⟨g1, g2⟩ := vFrom_bytes b h0
        obtain ⟨g3, g4⟩ := vsFrom_bytes m _ h2
        refine ⟨fun v hv => ?_, ?_⟩
        · rcases List.mem_cons.1 hv with rfl | hv
          · exact g1
          · exact g3 v hv
        · rw [take_add', toI_app, g2, g4, List.flatMap_cons]
theorem rFrom_bytes (b : List UInt8) (h : (rFrom b).2 ≠ 0) : rowOk (rFrom b).1 = true ∧ toI (b.take (rFrom b).2) = rowBytes (rFrom b).1 := by
  match b, h with
  | [], h => exact absurd rfl h
  | k :: r, h =>
    by_cases h4 : 4 < k.toNat
    · rw [rFrom, if_pos h4] at h; exact absurd rfl h
    · rw [rFrom_eq h4] at h ⊢
      cases hv : vsFrom k.toNat r with
      | none => rw [hv] at h; exact absurd rfl h
      | some q =>
        obtain ⟨vs, n⟩ := q
        obtain ⟨g1, g2⟩ := vsFrom_bytes _ _ hv
        have hl := vsFrom_len _ _ hv
        simp only
        refine ⟨?_, ?_⟩
        · simp only [rowOk, Bool.and_eq_true, List.all_eq_true, decide_eq_true_eq]
          exact ⟨g1, by omega⟩
        · have e : (k :: r).take (1 + n) = k :: r.take n := by rw [Nat.add_comm]; rfl
          rw [e, toI_cons, g2, rowBytes_eq, hl]
end Go.Proofs.Yteaojpfofifmnaa.PE
/- Writes read out of bytes: with the check of the sign (the reference) and without (the program), which writes back and compares. -/
set_option linter.unusedSimpArgs false
set_option linter.unusedVariables false
namespace Go.Proofs.Yteaojpfofifmnaa.PE
open Go.RowKit

def wrOf (x y : UInt8) (r : List UInt8) : Wr := ⟨x.toNat, ⟨false, (rFrom r).1⟩, decide (y.toNat = 1)⟩
def wsS : Nat → List UInt8 → Option (List Wr × Nat)
  | 0, _ => some ([], 0)
  | m + 1, x :: y :: r => if 1 < y.toNat then none else if (rFrom r).2 = 0 then none else match wsS m (r.drop (rFrom r).2) with
    | none => none
    | some (ws, n) => some (wrOf x y r :: ws, (rFrom r).2 + n + 2)
  | _ + 1, _ => none
def wsI : Nat → List UInt8 → Option (List Wr × Nat)
  | 0, _ => some ([], 0)
  | m + 1, x :: y :: r => if (rFrom r).2 = 0 then none else match wsI m (r.drop (rFrom r).2) with
    | none => none
    | some (ws, n) => some (wrOf x y r :: ws, (rFrom r).2 + n + 2)
  | _ + 1, _ => none
theorem wsS_wsI : ∀ (m : Nat) (b : List UInt8) {q : List Wr × Nat}, wsS m b = some q → wsI m b = some q
  | 0, b, q, h => h
  | m + 1, [], q, h => h
  | m + 1, [x], q, h => h
  | m + 1, x :: y :: r, q, h => by
    simp only [wsS] at h
    simp only [wsI]
    split at h
    · cases h
    split at h
    · cases h
    rename_i h0
    rw [if_neg h0]
    split at h
    · cases h
    rename_i ws n h2
    rw [wsS_wsI m _ h2]
    exact h
theorem head_bytes {x y : UInt8} {r : List UInt8} {n : Nat} (h0 : (rFrom r).2 ≠ 0) : toI ((x :: y :: r).take ((rFrom r).2 + n + 2)) = (x.toNat : Int) :: (y.toNat : Int) :: (rowBytes (rFrom r).1 ++ toI ((r.drop (rFrom r).2).take n)) := by
  have e : (x :: y :: r).take ((rFrom r).2 + n + 2) = x :: y :: r.take ((rFrom r).2 + n) := rfl
  rw [e, toI_cons, toI_cons, take_add', toI_app, (rFrom_bytes r h0).2]
theorem wsS_bytes : ∀ (m : Nat) (b : List UInt8) {ws : List Wr} {n : Nat}, wsS m b = some (ws, n) → toI (b.take n) = ws.flatMap wrBytes
  | 0, b, ws, n, h => by
    simp only [wsS, Option.some.injEq, Prod.mk.injEq] at h
    obtain ⟨rfl, rfl⟩ := h
    rfl
  | m + 1, [], ws, n, h => by cases h
  | m + 1, [x], ws, n, h => by cases h
  | m + 1, x :: y :: r, ws, n, h => by
    simp only [wsS] at h
    split at h
    · cases h
    rename_i hy
    split at h
    · cases h
    rename_i h0
    split at h
    · cases h
    rename_i ws' n' h2
    simp only [Option.some.injEq, Prod.mk.injEq] at h
    obtain ⟨rfl, rfl⟩ := h
    have hg : goneI (decide (y.toNat = 1)) = (y.toNat : Int) := by
      by_cases h1 : y.toNat = 1
      · rw [decide_eq_true h1, h1]; rfl
      · rw [decide_eq_false h1]
        have : y.toNat = 0 := by omega
        rw [this]; rfl
    rw [head_bytes h0, wsS_bytes m _ h2, List.flatMap_cons]
    show _ = ((x.toNat : Int) :: goneI (decide (y.toNat = 1)) :: rowBytes (rFrom r).1) ++ _
    rw [hg]
    rfl
theorem wsI_back : ∀ (m : Nat) (b : List UInt8) {ws : List Wr} {n : Nat}, wsI m b = some (ws, n) → toI (b.take n) = ws.flatMap wrBytes → wsS m b = some (ws, n)
  | 0, b, ws, n, h, _ => h
  | m + 1, [], ws, n, h, _ => h
  | m + 1, [x], ws, n, h, _ => h
  | m + 1, x :: y :: r, ws, n, h, hb => by
    simp only [wsI] at h
    simp only [wsS]
    split at h
    · cases h
    rename_i h0
    split at h
    · cases h
    rename_i ws' n' h2
    simp only [Option.some.injEq, Prod.mk.injEq] at h
    obtain ⟨rfl, rfl⟩ := h
    rw [head_bytes h0, List.flatMap_cons] at hb
    have hb' : (x.toNat : Int) :: (y.toNat : Int) :: (rowBytes (rFrom r).1 ++ toI ((r.drop (rFrom r).2).take n')) = (x.toNat : Int) :: goneI (decide (y.toNat = 1)) :: (rowBytes (rFrom r).1 ++ ws'.flatMap wrBytes) := hb
    simp only [List.cons.injEq, true_and] at hb'
    obtain ⟨hy, ht⟩ := hb'
    have hy2 : ¬ 1 < y.toNat := by
      intro h
      rw [decide_eq_false (by omega)] at hy
      have : (y.toNat : Int) = 0 := hy
      omega
    rw [if_neg hy2, if_neg h0, wsI_back m _ h2 (List.append_cancel_left ht)]
theorem wsI_len : ∀ (m : Nat) (b : List UInt8) {ws : List Wr} {n : Nat}, wsI m b = some (ws, n) → ws.length = m ∧ n ≤ b.length
  | 0, b, ws, n, h => by
    simp only [wsI, Option.some.injEq, Prod.mk.injEq] at h
    obtain ⟨rfl, rfl⟩ := h
    exact ⟨rfl, Nat.zero_le _⟩
  | m + 1, [], ws, n, h => by cases h
  | m + 1, [x], ws, n, h => by cases h
  | m + 1, x :: y :: r, ws, n, h => by
    simp only [wsI] at h
    split at h
    · cases h
    split at h
    · cases h
    rename_i ws' n' h2
    simp only [Option.some.injEq, Prod.mk.injEq] at h
    obtain ⟨rfl, rfl⟩ := h
    obtain ⟨g1, g2⟩ := wsI_len m _ h2
    have g3 := rFrom_le r
    rw [List.length_drop] at g2
    exact ⟨by rw [List.length_cons, g1], by simp only [List.length_cons]; omega⟩
end Go.Proofs.Yteaojpfofifmnaa.PE
/- Bytes of entries: what both functions tell, for the exact statement. -/
set_option linter.unusedSimpArgs false
set_option linter.unusedVariables false
namespace Go.Proofs.Yteaojpfofifmnaa.PE
open Go.RowKit

theorem bodyB_own (e : Ent) : bodyB e.own = bodyB e := by
  have : (e.ws.map Wr.own).flatMap wrBytes = e.ws.flatMap wrBytes := by rw [List.flatMap_map]; rfl
  rw [bodyB_eq, bodyB_eq]
  show e.time :: ((e.ws.map Wr.own).length : Int) :: (e.ws.map Wr.own).flatMap wrBytes = _
  rw [this, List.length_map]
theorem entBytes_own (e : Ent) : entBytes e.own = entBytes e := by
  have : logOk [e.own] = logOk [e] := logOk_own [e]
  rw [entBytes, entBytes, this, bodyB_own]
theorem entBytes_vs {a b : Ent} (h : entU a = entU b) : entBytes a = entBytes b := by rw [← entBytes_own a, ← entBytes_own b, entU_inj h]
theorem frB_len (b : List Int) : (frB b).length = b.length + 3 := by simp [frB]
theorem entBytes_len (e : Ent) : (entBytes e).length ≤ 180 := by
  unfold entBytes
  split
  · rename_i h
    have := body_len h
    rw [frB_len]
    omega
  · simp
theorem by_len (l : List Int) : (byU l).length = l.length := List.length_map _
end Go.Proofs.Yteaojpfofifmnaa.PE
/- An entry read out of bytes: to write it back and compare is to check the signs and the end. -/
set_option linter.unusedSimpArgs false
set_option linter.unusedVariables false
namespace Go.Proofs.Yteaojpfofifmnaa.PE
open Go.RowKit

theorem rowBytes_flen {r : List UInt8} (h0 : (rFrom r).2 ≠ 0) : (rowBytes (rFrom r).1).length = (rFrom r).2 := by
  rw [← (rFrom_bytes r h0).2, toI_len, List.length_take]
  have := rFrom_le r
  omega
theorem wsI_flen : ∀ (m : Nat) (b : List UInt8) {ws : List Wr} {n : Nat}, wsI m b = some (ws, n) → (ws.flatMap wrBytes).length = n
  | 0, b, ws, n, h => by
    simp only [wsI, Option.some.injEq, Prod.mk.injEq] at h
    obtain ⟨rfl, rfl⟩ := h
    rfl
  | m + 1, [], ws, n, h => by cases h
  | m + 1, [x], ws, n, h => by cases h
  | m + 1, x :: y :: r, ws, n, h => by
    simp only [wsI] at h
    split at h
    · cases h
    rename_i h0
    split at h
    · cases h
    rename_i ws' n' h2
    simp only [Option.some.injEq, Prod.mk.injEq] at h
    obtain ⟨rfl, rfl⟩ := h
    have g := wsI_flen m _ h2
    have g2 := rowBytes_flen h0
    rw [List.flatMap_cons, List.length_append, g]
    have : (wrBytes (wrOf x y r)).length = (rowBytes (rFrom r).1).length + 2 := rfl
    omega
theorem unF_some {b body : List UInt8} {n : Nat} (h : unF b = some (body, n)) : n = body.length + 3 ∧ n ≤ b.length ∧ toI (b.take n) = ((body.length : Int) / 256) :: ((body.length : Int) % 256) :: (toI body ++ [sumB (toI body)]) := by
  match b, h with
  | [], h => cases h
  | [x], h => cases h
  | x :: y :: r, h =>
    have hx := x.toNat_lt
    have hy := y.toNat_lt
    rw [unF] at h
    generalize hN : 256 * x.toNat + y.toNat = N at h
    split at h
    · cases h
    split at h
    · rename_i h1 h2
      simp only [Option.some.injEq, Prod.mk.injEq] at h
      obtain ⟨rfl, rfl⟩ := h
      have hl : (r.take N).length = N := by rw [List.length_take]; omega
      rw [hl]
      refine ⟨rfl, by simp only [List.length_cons]; omega, ?_⟩
      have e : (x :: y :: r).take (N + 3) = x :: y :: r.take (N + 1) := rfl
      have e2 : r.take (N + 1) = r.take N ++ [r.getD N 0] := by
        rw [List.getD_eq_getElem?_getD, List.getElem?_eq_getElem (show N < r.length by omega)]
        exact List.take_succ_eq_append_getElem (by omega)
      have e3 : (N : Int) / 256 = x.toNat := by omega
      have e4 : (N : Int) % 256 = y.toNat := by omega
      rw [e, e2, toI_cons, toI_cons, toI_app, e3, e4]
      show _ :: _ :: (toI (r.take N) ++ [((r.getD N 0).toNat : Int)]) = _
      rw [← h2]
      rfl
    · cases h
theorem back_iff {b : List UInt8} {t m : UInt8} {rest : List UInt8} {n k : Nat} {c : Bool} {ws : List Wr} (h : unF b = some (t :: m :: rest, n)) (hw : wsI m.toNat rest = some (ws, k)) :
    (entBytes ⟨t.toNat, c, ws⟩ = toI (b.take n)) ↔ (wsS m.toNat rest = some (ws, k) ∧ k = rest.length ∧ logOk [⟨t.toNat, c, ws⟩] = true) := by
  obtain ⟨u1, u2, u3⟩ := unF_some h
  obtain ⟨l1, l2⟩ := wsI_len _ _ hw
  have fl := wsI_flen _ _ hw
  rw [u3]
  unfold entBytes
  cases ho : logOk [⟨t.toNat, c, ws⟩]
  · simp
  · simp only [if_true, and_true, frB]
    have hb : bodyB ⟨t.toNat, c, ws⟩ = (t.toNat : Int) :: (m.toNat : Int) :: ws.flatMap wrBytes := by rw [bodyB_eq]; simp only [l1]
    constructor
    · intro he
      simp only [List.cons.injEq] at he
      have h1 := List.append_inj_left' he.2.2 rfl
      rw [hb, toI_cons, toI_cons] at h1
      simp only [List.cons.injEq, true_and] at h1
      have hk : k = rest.length := by
        have := congrArg List.length h1
        rw [fl, toI_len] at this
        exact this
      refine ⟨wsI_back _ _ hw ?_, hk⟩
      rw [hk, List.take_length, h1]
    · rintro ⟨h1, h2⟩
      have h3 := wsS_bytes _ _ h1
      rw [h2, List.take_length] at h3
      have h4 : bodyB ⟨t.toNat, c, ws⟩ = toI (t :: m :: rest) := by rw [hb, ← h3]; rfl
      rw [h4, toI_len]
end Go.Proofs.Yteaojpfofifmnaa.PE
/- An entry read out of bytes, in plain words. -/
set_option linter.unusedSimpArgs false
set_option linter.unusedVariables false
namespace Go.Proofs.Yteaojpfofifmnaa.PE
open Go.RowKit

def entZ : Ent := ⟨0, true, []⟩
def readS : List UInt8 → Option Ent
  | t :: m :: rest => match wsS m.toNat rest with
    | none => none
    | some (ws, k) => if k = rest.length ∧ logOk [⟨t.toNat, ws.isEmpty, ws⟩] = true then some ⟨t.toNat, ws.isEmpty, ws⟩ else none
  | _ => none
def eFrom (b : List UInt8) : Ent × Nat := match unF b with
  | none => (entZ, 0)
  | some (body, n) => match readS body with
    | none => (entZ, 0)
    | some e => (e, n)
theorem wsI_rows : ∀ (m : Nat) (b : List UInt8) {ws : List Wr} {n : Nat}, wsI m b = some (ws, n) → ∀ w ∈ ws, rowOk w.row.vs = true
  | 0, b, ws, n, h => by
    simp only [wsI, Option.some.injEq, Prod.mk.injEq] at h
    obtain ⟨rfl, rfl⟩ := h
    intro w hw
    cases hw
  | m + 1, [], ws, n, h => by cases h
  | m + 1, [x], ws, n, h => by cases h
  | m + 1, x :: y :: r, ws, n, h => by
    simp only [wsI] at h
    split at h
    · cases h
    rename_i h0
    split at h
    · cases h
    rename_i ws' n' h2
    simp only [Option.some.injEq, Prod.mk.injEq] at h
    obtain ⟨rfl, rfl⟩ := h
    intro w hw
    rcases List.mem_cons.1 hw with rfl | hw
    · exact (rFrom_bytes r h0).1
    · exact wsI_rows m _ h2 w hw
theorem wrows_lim {ws : List Wr} (hl : ws.length ≤ 1048576) (h : ∀ w ∈ ws, rowOk w.row.vs = true) (t : Int) (c : Bool) : LimE [⟨t, c, ws⟩] := by
  refine ⟨by simp, fun e he => ?_⟩
  rw [List.mem_singleton.1 he]
  refine ⟨hl, fun w hw => ?_⟩
  obtain ⟨h1, h2⟩ := rowOk_at (h w hw)
  exact ⟨by omega, fun v hv => by have := ok_size (h1 v hv); omega⟩
theorem wsI_lim {m : Nat} {b : List UInt8} {ws : List Wr} {n : Nat} (hm : m ≤ 255) (h : wsI m b = some (ws, n)) (t : Int) (c : Bool) : LimE [⟨t, c, ws⟩] :=
  wrows_lim (by have := (wsI_len _ _ h).1; omega) (wsI_rows m b h) t c
end Go.Proofs.Yteaojpfofifmnaa.PE
/- A body read: the reference's loop. -/
set_option linter.unusedSimpArgs false
set_option linter.unusedVariables false
set_option maxHeartbeats 8000000
set_option maxRecDepth 20000
namespace Go.Proofs.Yteaojpfofifmnaa.PE
open Go.RowKit

def wPtr (ws : List Wr) : V := match ws with
  | [] => .sl true 3 []
  | _ :: r => .ref 2 r.length 0 (r.length + 1) false
def wTail (ws : List Wr) : Heap := match ws with
  | [] => []
  | w :: r => [.rows r.length 3 ((w :: r).map Wr.cells)]
def wHeap (t : Int) (ws : List Wr) : Heap := .box [.int .i64 0, .sl true 3 []] :: .box [.int .i64 t, wPtr ws] :: wTail ws
-- find91
end Go.Proofs.Yteaojpfofifmnaa.PE
/- Bodies and entries read: the reference. -/
set_option linter.unusedSimpArgs false
set_option linter.unusedVariables false
set_option maxHeartbeats 8000000
set_option maxRecDepth 20000
namespace Go.Proofs.Yteaojpfofifmnaa.PE
open Go.RowKit

-- find91
end Go.Proofs.Yteaojpfofifmnaa.PE
/- Entries read: the reference. -/
set_option linter.unusedSimpArgs false
set_option linter.unusedVariables false
set_option maxHeartbeats 8000000
set_option maxRecDepth 20000
namespace Go.Proofs.Yteaojpfofifmnaa.PE
open Go.RowKit

-- find53
end Go.Proofs.Yteaojpfofifmnaa.PE
/- Results that are memory of one's own, told as values. -/
set_option linter.unusedSimpArgs false
set_option linter.unusedVariables false
namespace Go.Proofs.Yteaojpfofifmnaa.PE
open Go.RowKit

theorem retP_own {run : Run} {f : Nat} {args : List V} {v : V} {hc : Heap} {fs : List Fd} {u : U} {ids : List Nat} (hr : run f args [] = some ([v], hc)) (ho : OwnF hc (.sub fs) v u ids) (hd : dep (.sub fs) ≤ 6) : ∃ q, retP run f args = some [q] ∧ PurF (.sub fs) q u := by
  obtain ⟨q, e1, e2⟩ := OwnF_pure (.sub fs) 6 hd ho
  have e3 := pureDA_of ho e1
  refine ⟨q, ?_, e2⟩
  unfold retP
  rw [hr, PureR_some]
  have hA : pureAs hc [v] = none ∨ pureAs hc [v] = some [q] := by
    simp only [OwnF] at ho
    obtain ⟨xs, rfl, ⟨c, rfl, rfl, _⟩ | ⟨id, st, clip, cont, r, rfl, e, _, _⟩⟩ := ho
    · right
      simp only [pureD, Option.some.injEq] at e1
      subst e1
      rfl
    · simp only [pureAs, pureA, pureC, e, blkOf]
      cases hdeep : fs.any Fd.deep
      · right
        simp only [pureD, e, blkOf, hdeep, Bool.false_eq_true, if_false, if_true, Option.some.injEq] at e1
        subst e1
        simp
      · left
        simp
  rcases hA with hA | hA
  · rw [hA, OrD_none]
    simp only [pureDAs, mapO, e3]
  · rw [hA, OrD_some]
theorem retP_ownI {run : Run} {f : Nat} {args : List V} {v : V} {hc : Heap} {fs : List Fd} {u : U} {ids : List Nat} {k : IntKind} {n : Int} (hr : run f args [] = some ([v, .int k n], hc)) (ho : OwnF hc (.sub fs) v u ids) (hd : dep (.sub fs) ≤ 6) : ∃ q, retP run f args = some [q, .int k n] ∧ PurF (.sub fs) q u := by
  obtain ⟨q, e1, e2⟩ := OwnF_pure (.sub fs) 6 hd ho
  have e3 := pureDA_of ho e1
  refine ⟨q, ?_, e2⟩
  unfold retP
  rw [hr, PureR_some]
  have hA : pureAs hc [v, .int k n] = none ∨ pureAs hc [v, .int k n] = some [q, .int k n] := by
    simp only [OwnF] at ho
    obtain ⟨xs, rfl, ⟨c, rfl, rfl, _⟩ | ⟨id, st, clip, cont, r, rfl, e, _, _⟩⟩ := ho
    · right
      simp only [pureD, Option.some.injEq] at e1
      subst e1
      rfl
    · simp only [pureAs, pureA, pureC, e, blkOf]
      cases hdeep : fs.any Fd.deep
      · right
        simp only [pureD, e, blkOf, hdeep, Bool.false_eq_true, if_false, if_true, Option.some.injEq] at e1
        subst e1
        simp
      · left
        simp
  rcases hA with hA | hA
  · rw [hA, OrD_none]
    simp only [pureDAs, mapO, e3, pureDA_int]
  · rw [hA, OrD_some]
end Go.Proofs.Yteaojpfofifmnaa.PE
/- What a follower has of a log; a backup and the log behind it. -/
set_option linter.unusedSimpArgs false
set_option linter.unusedVariables false
set_option maxHeartbeats 4000000
namespace Go.Proofs.Yteaojpfofifmnaa.PE
open Go.RowKit

def icell (x : Int) : List V := [.int .i64 x]
def icU (x : Int) : List U := [.int x]
def fol1 (m : Nat) (b : Nat) (x : Int) : Nat := if x = b ∧ (b : Int) < m then b + 1 else b
def fol (m : Nat) (xs : List Int) : Nat := xs.foldl (fol1 m) 0
end Go.Proofs.Yteaojpfofifmnaa.PE
/- A backup and the log behind it. -/
set_option linter.unusedSimpArgs false
set_option linter.unusedVariables false
set_option maxHeartbeats 4000000
namespace Go.Proofs.Yteaojpfofifmnaa.PE
open Go.RowKit

def behStep (t : Int) (b : List Ent) (x : Ent) : List Ent := if t < x.time then b ++ [x] else b
def beh (k : Ent) (l : List Ent) : List Ent := l.foldl (behStep k.time) [k]
def behOk (k : Ent) (l : List Ent) : Bool := logOk [k] && (logOk l && decide (((beh k l).length : Int) ≤ 12))
end Go.Proofs.Yteaojpfofifmnaa.PE
/- Bytes of logs: both functions tell them. -/
set_option linter.unusedSimpArgs false
set_option linter.unusedVariables false
set_option maxHeartbeats 8000000
set_option maxRecDepth 20000
namespace Go.Proofs.Yteaojpfofifmnaa.PE
open Go.RowKit

theorem zip_bytes {h : Heap} : ∀ {cont : List (List V)} {l : List Int} {r : List Nat}, Zip3 (OwnR h fdByte) cont (byU l) r → cont = u8s l
  | [], [], _, _ => rfl
  | [], _ :: _, _, h => (h : False).elim
  | _ :: _, [], _, h => (h : False).elim
  | c :: cs, x :: l, r, h => by
    obtain ⟨i, j, rfl, h1, h2⟩ := h
    obtain ⟨a, rfl, h3, rfl⟩ := ownR_Byte h1
    injection h3 with h3
    injection h3 with h3
    subst h3
    rw [u8s_cons, zip_bytes h2]
def entF (b : List Int) (e : Ent) : List Int := b ++ frB (bodyB e)
def logBytes (l : List Ent) : List Int := if logOk l then l.foldl entF [] else []
theorem fr_len {e : Ent} (h : logOk [e] = true) : 0 < (frB (bodyB e)).length ∧ (frB (bodyB e)).length ≤ 180 := by
  have := body_len h
  rw [frB_len]
  omega
end Go.Proofs.Yteaojpfofifmnaa.PE
/- Whether two lists of bytes are the same; entries' bytes as a call's result. -/
set_option linter.unusedSimpArgs false
set_option linter.unusedVariables false
set_option maxHeartbeats 8000000
set_option maxRecDepth 20000
namespace Go.Proofs.Yteaojpfofifmnaa.PE
open Go.RowKit

theorem loop_eqB (d : Nat) (c c' : Bool) (a b : List Int) (hs : a.length < 1099511627776) (hlen : a.length = b.length) (K : Nat) (hK : (a.zip b).length ≤ K) : LoopS (runD tab noExt d) (drawI (runD tab noExt d)) [0, 1, 12, 13] [4] L76x0 ([] : Heap).length K [(0, .sl c 1 (u8s a)), (1, .sl c' 1 (u8s b)), (12, .int .i64 (a.length : Int)), (13, .int .i64 0)] [] = if (a.zip b).all (fun p => decide (p.1 = p.2)) then (some (.exit 0, [(4, .undef)], []) : Out) else (some (.ret, [(4, .bool false)], []) : Out) := by
  have key := LoopS_all (run := (runD tab noExt d)) (draw := drawI (runD tab noExt d)) (live := [0, 1, 12, 13]) (out := [4]) (c := L76x0) (n0 := ([] : Heap).length) (a.zip b) (fun p => decide (p.1 = p.2)) (fun (i : Nat) => [(0, .sl c 1 (u8s a)), (1, .sl c' 1 (u8s b)), (12, .int .i64 (a.length : Int)), (13, .int .i64 i)]) [] (some (.exit 0, [(4, .undef)], []) : Out) (some (.ret, [(4, .bool false)], []) : Out) (fun K => ?_) (fun (i : Nat) (x : Int × Int) K hi hx => ?_) K hK
  · simp only [Int.natCast_zero] at key
    exact key
  · rw [LoopS_eq]
    simp -implicitDefEqProofs only [go_sem, Nat.reduceBEq, Nat.reduceAdd, Nat.reduceSub, Nat.reduceMul, Nat.reduceLeDiff, Nat.reduceEqDiff, Nat.reduceLT, Int.reduceNeg, Int.reduceAdd, Int.reduceSub, Int.reduceMul, Int.reduceLE, Int.reduceLT, Int.reduceEq, Int.reduceToNat, reduceCtorEq, evL76x0, B76x0, Int.lt_irrefl, List.length_zip, hlen, Nat.min_self, evC_draw, evD76x0, E76x0, u8s_len]
  · obtain ⟨g1, g2⟩ := List.getElem?_zip_eq_some.1 hx; rw [List.length_zip, hlen, Nat.min_self] at hi; obtain ⟨k1, k2⟩ := x; have g1 := u8s_at g1; have g2 := u8s_at g2
    rw [LoopS_eq]
    simp -implicitDefEqProofs (disch := omega) only [go_sem, Nat.reduceBEq, Nat.reduceAdd, Nat.reduceSub, Nat.reduceMul, Nat.reduceLeDiff, Nat.reduceEqDiff, Nat.reduceLT, Int.reduceNeg, Int.reduceAdd, Int.reduceSub, Int.reduceMul, Int.reduceLE, Int.reduceLT, Int.reduceEq, Int.reduceToNat, reduceCtorEq, evL76x0, B76x0, hi, hx, IntWalk.i64_in, List.length_zip, hlen, Nat.min_self, evC_draw, evD76x0, E76x0, u8s_len, *]
    repeat' ((first | rw [GuardI_ndec] | rw [CondC_ndec] | rw [GuardQ_ndec] | rw [GuardI_dec] | rw [CondC_dec] | rw [GuardQ_dec] | rw [GuardI_nby] | rw [CondC_nby] | rw [GuardQ_nby] | rw [GuardQ_by] | rw [GuardI_by] | rw [CondC_by]) <;> split <;> simp -implicitDefEqProofs (disch := omega) only [go_sem, Nat.reduceBEq, Nat.reduceAdd, Nat.reduceSub, Nat.reduceMul, Nat.reduceLeDiff, Nat.reduceEqDiff, Nat.reduceLT, Int.reduceNeg, Int.reduceAdd, Int.reduceSub, Int.reduceMul, Int.reduceLE, Int.reduceLT, Int.reduceEq, Int.reduceToNat, reduceCtorEq, hi, hx, IntWalk.i64_in, List.length_zip, hlen, Nat.min_self, evC_draw, evD76x0, E76x0, u8s_len, *, *])
    all_goals first | rfl | (simp_all []; done) | (simp_all []; omega)
-- find76
theorem run_eqB (d : Nat) (c c' : Bool) (a b : List Int) (hs : a.length < 1099511627776) : retP (runD tab noExt (d + 1)) 76 [.sl c 1 (u8s a), .sl c' 1 (u8s b)] = some [.bool (decide (a = b))] := by
  rw [retP, runD_eq find76 _ _ _ (by simp)]
  by_cases hlen : a.length = b.length
  · have hl := loop_eqB d c c' a b hs hlen 1099511627775 (by simp; omega)
    simp -implicitDefEqProofs only [go_sem, Nat.reduceBEq, Nat.reduceAdd, Nat.reduceSub, Nat.reduceMul, Nat.reduceLeDiff, Nat.reduceEqDiff, Nat.reduceLT, Int.reduceNeg, Int.reduceAdd, Int.reduceSub, Int.reduceMul, Int.reduceLE, Int.reduceLT, Int.reduceEq, Int.reduceToNat, reduceCtorEq, hlen, u8s_len] at hl ⊢
    rw [hl, zip_same a b hlen]
    by_cases h : a = b <;> simp -implicitDefEqProofs only [go_sem, Nat.reduceBEq, Nat.reduceAdd, Nat.reduceSub, Nat.reduceMul, Nat.reduceLeDiff, Nat.reduceEqDiff, Nat.reduceLT, Int.reduceNeg, Int.reduceAdd, Int.reduceSub, Int.reduceMul, Int.reduceLE, Int.reduceLT, Int.reduceEq, Int.reduceToNat, reduceCtorEq, h]
  · have h1 : ((a.length : Int) = b.length) = False := eq_false (by omega)
    have h2 : ¬ a = b := fun e => hlen (by rw [e])
    simp -implicitDefEqProofs only [go_sem, Nat.reduceBEq, Nat.reduceAdd, Nat.reduceSub, Nat.reduceMul, Nat.reduceLeDiff, Nat.reduceEqDiff, Nat.reduceLT, Int.reduceNeg, Int.reduceAdd, Int.reduceSub, Int.reduceMul, Int.reduceLE, Int.reduceLT, Int.reduceEq, Int.reduceToNat, reduceCtorEq, h1, h2, u8s_len]
/-- A heap behind a call: what was there, and more. -/
theorem heap_more {h hw : Heap} (k5 : ∀ j, j < h.length → hw[j]? = h[j]?) : hw = h ++ hw.drop h.length := by
  have : hw.take h.length = h := by
    apply List.ext_getElem?
    intro j
    rcases Nat.lt_or_ge j h.length with hj | hj
    · rw [List.getElem?_take_of_lt hj, k5 j hj]
    · rw [List.getElem?_eq_none hj, List.getElem?_eq_none (by simp; omega)]
  conv => lhs; rw [← List.take_append_drop h.length hw, this]
theorem entB_call (d : Nat) (h : Heap) {args args' : List V} (e : Ent) (hp : pureDAs h args = some args') (ha : args' = [.agg e.cells]) (h1 : LimE [e]) : ∃ v t, callX (runD tab noExt (d + 10)) h 0 18 args = some (v, h ++ t) ∧
    ((∃ c, v = .sl c 1 [] ∧ entBytes e = []) ∨ ∃ id st clip, v = .ref id st 0 (entBytes e).length clip ∧ (h ++ t)[id]? = some (.rows st 1 (u8s (entBytes e)))) := by
  obtain ⟨v, hc, ids, q1, q2, q3⟩ := own_EntryBytes d e h1
  rw [← ha] at q1
  obtain ⟨w, hw, js, k1, k2, k3, k4, k5, k6⟩ := own_call (h := h) hp q1 q2 q3
  have ht := heap_more k5
  refine ⟨w, hw.drop h.length, by rw [k1, ← ht], ?_⟩
  rw [← ht]
  simp only [OwnF] at k2
  obtain ⟨xs, e1, h2⟩ := k2
  injection e1 with e1
  subst e1
  rcases h2 with ⟨c, rfl, e2, _⟩ | ⟨id, st, clip, cont, r, rfl, hb, _, hz⟩
  · left
    refine ⟨c, rfl, ?_⟩
    have := congrArg List.length e2
    rw [by_len] at this
    exact List.length_eq_zero_iff.1 this
  · right
    have := zip_bytes hz
    subst this
    refine ⟨id, st, clip, by rw [u8s_len], hb⟩
end Go.Proofs.Yteaojpfofifmnaa.PE
/- Entries read: the program's loop. -/
set_option linter.unusedSimpArgs false
set_option linter.unusedVariables false
set_option maxHeartbeats 8000000
set_option maxRecDepth 20000
namespace Go.Proofs.Yteaojpfofifmnaa.PE
open Go.RowKit

theorem run_rowFromI (d : Nat) (c : Bool) (b : List UInt8) (hb : b.length < 1099511627776) : ∃ cl, retP (runD tab noExt (d + 6)) 31 [.sl c 1 (cellsOfBytes b)] = some [.sl cl 3 ((rFrom b).1.map Val.cells), .int .i64 (rFrom b).2] := by
  obtain ⟨v, hc, ids, r, o, _⟩ := own_rowFrom d c b hb
  obtain ⟨q, e, g⟩ := retP_ownI r o (by decide)
  obtain ⟨cl, ct, rfl, hz⟩ := purS_Value g
  obtain ⟨vs, rfl, h2⟩ := valsU_of hz
  have : (rFrom b).1 = vs := by simpa using map_same (fun _ _ => valU_inj) h2
  exact ⟨cl, by rw [e, this]⟩
-- find27
theorem step_efI (d : Nat) (c c0 : Bool) (b : List (List V)) (n : Nat) (t : Int) (kk : Nat) (i : Nat) (hi : i < kk) (hk : kk ≤ 255) (ws : List Wr) (hl : ws.length = i) (x y : UInt8) (r : List UInt8) (hr : r.length < 1099511627776) (h0 : 0 < r.length) (hn : (rFrom r).2 ≠ 0) (K : Nat) :
    ∃ cl, LoopS (runD tab noExt (d + 10)) (drawI (runD tab noExt (d + 10))) [0, 2, 5, 6, 7, 33, 34] [0, 2, 3, 5, 6] L27x0 2 (K + 1) [(0, .sl c0 1 b), (2, .ptr 0 0 0 0), (5, .int .i64 n), (6, .ptr 1 0 0 0), (7, .sl c 1 (cellsOfBytes (x :: y :: r))), (33, .int .i64 kk), (34, .int .i64 i)] (wHeap t ws) = LoopS (runD tab noExt (d + 10)) (drawI (runD tab noExt (d + 10))) [0, 2, 5, 6, 7, 33, 34] [0, 2, 3, 5, 6] L27x0 2 K [(0, .sl c0 1 b), (2, .ptr 0 0 0 0), (5, .int .i64 n), (6, .ptr 1 0 0 0), (7, .sl c 1 (cellsOfBytes (r.drop (rFrom r).2))), (33, .int .i64 kk), (34, .int .i64 (i + 1 : Nat))] (wHeap t (ws ++ [⟨x.toNat, ⟨cl, (rFrom r).1⟩, decide (y.toNat = 1)⟩])) := by
  obtain ⟨cl, hv⟩ := run_rowFromI (d + 4) c r hr
  refine ⟨cl, ?_⟩
  have hle := rFrom_le r
  have hx := x.toNat_lt
  have hyl := y.toNat_lt
  have htk : List.take r.length (cellsOfBytes r) = cellsOfBytes r := List.take_of_length_le (by rw [cob_len]; omega)
  have htk2 : List.take (r.length - (rFrom r).2) (cellsOfBytes (r.drop (rFrom r).2)) = cellsOfBytes (r.drop (rFrom r).2) := List.take_of_length_le (by rw [cob_len, List.length_drop]; omega)
  have g1 : ((r.length : Int) + 2 < 3) = False := eq_false (by omega)
  have g3 : (((rFrom r).2 : Int) = 0) = False := eq_false (by omega)
  have g4 : (decide ((y.toNat : Int) = 1)) = decide (y.toNat = 1) := decide_eq_decide.2 (by omega)
  have g5 : ((i : Int) < kk) := by omega
  have g6 : ((2 : Int) + (rFrom r).2).toNat = (rFrom r).2 + 2 := by omega
  have g7 : (2 : Int) + (rFrom r).2 ≤ (r.length : Int) + 2 := by omega
  have g8 : (0 : Int) ≤ 2 + (rFrom r).2 := by omega
  have g9 : (2 : Int) ≤ (r.length : Int) + 2 := by omega
  have g10 : (1 : Int) < (r.length : Int) + 2 := by omega
  have g11 : (0 : Int) < (r.length : Int) + 2 := by omega
  have g12 : ((r.length : Int) + 2).toNat = r.length + 2 := by omega
  cases ws with
  | nil =>
    rw [LoopS_eq]
    simp -implicitDefEqProofs (disch := omega) only [go_sem, Nat.reduceBEq, Nat.reduceAdd, Nat.reduceSub, Nat.reduceMul, Nat.reduceLeDiff, Nat.reduceEqDiff, Nat.reduceLT, Int.reduceNeg, Int.reduceAdd, Int.reduceSub, Int.reduceMul, Int.reduceLE, Int.reduceLT, Int.reduceEq, Int.reduceToNat, reduceCtorEq, evL27x0, B27x0, evC_draw, evD27x0, E27x0, wHeap, wPtr, wTail, Wr.cells, Row.v, cob_cons, cob_len, cob_drop, htk, htk2, hv, g1, g3, g4, g5, g6, g7, g8, g9, g10, g11, g12, Nat.add_sub_cancel, Nat.add_sub_add_right, IntWalk.i64_in, elemsOf, elemOf]
  | cons w ws =>
    have hsm : ws.length + 1 + 1 < 4294967296 := by simp only [List.length_cons] at hl; omega
    rw [LoopS_eq]
    simp -implicitDefEqProofs (disch := omega) only [go_sem, Nat.reduceBEq, Nat.reduceAdd, Nat.reduceSub, Nat.reduceMul, Nat.reduceLeDiff, Nat.reduceEqDiff, Nat.reduceLT, Int.reduceNeg, Int.reduceAdd, Int.reduceSub, Int.reduceMul, Int.reduceLE, Int.reduceLT, Int.reduceEq, Int.reduceToNat, reduceCtorEq, evL27x0, B27x0, evC_draw, evD27x0, E27x0, wHeap, wPtr, wTail, Wr.cells, Row.v, cob_cons, cob_len, cob_drop, htk, htk2, hv, hsm, g1, g3, g4, g5, g6, g7, g8, g9, g10, g11, g12, Nat.add_sub_cancel, Nat.add_sub_add_right, IntWalk.i64_in, elemsOf, elemOf, List.map_append, List.length_append]
end Go.Proofs.Yteaojpfofifmnaa.PE
/- Entries read: the program. -/
set_option linter.unusedSimpArgs false
set_option linter.unusedVariables false
set_option maxHeartbeats 8000000
set_option maxRecDepth 20000
namespace Go.Proofs.Yteaojpfofifmnaa.PE
open Go.RowKit

-- find27
theorem wsI_two {m : Nat} {x y : UInt8} {r : List UInt8} (h : (rFrom r).2 = 0) : wsI (m + 1) (x :: y :: r) = none := by simp only [wsI, if_pos h]
theorem loop_efI (d : Nat) (c0 : Bool) (b : List (List V)) (n : Nat) (t : Int) (kk : Nat) (hk : kk ≤ 255) : ∀ (m i : Nat) (c : Bool) (rest : List UInt8) (ws : List Wr), i + m = kk → rest.length < 1099511627776 → ws.length = i → ∀ K, m ≤ K →
    match wsI m rest with
    | none => ∃ (ws' : List Wr), LoopS (runD tab noExt (d + 10)) (drawI (runD tab noExt (d + 10))) [0, 2, 5, 6, 7, 33, 34] [0, 2, 3, 5, 6] L27x0 2 K [(0, .sl c0 1 b), (2, .ptr 0 0 0 0), (5, .int .i64 n), (6, .ptr 1 0 0 0), (7, .sl c 1 (cellsOfBytes rest)), (33, .int .i64 kk), (34, .int .i64 i)] (wHeap t ws) = some (.ret, [(0, .sl c0 1 b), (2, .ptr 0 0 0 0), (3, .int .i64 0), (5, .int .i64 n), (6, .ptr 1 0 0 0)], wHeap t ws')
    | some (vs, _) => ∃ (ws' : List Wr), ws'.map wrU = ws.map wrU ++ vs.map wrU ∧ LoopS (runD tab noExt (d + 10)) (drawI (runD tab noExt (d + 10))) [0, 2, 5, 6, 7, 33, 34] [0, 2, 3, 5, 6] L27x0 2 K [(0, .sl c0 1 b), (2, .ptr 0 0 0 0), (5, .int .i64 n), (6, .ptr 1 0 0 0), (7, .sl c 1 (cellsOfBytes rest)), (33, .int .i64 kk), (34, .int .i64 i)] (wHeap t ws) = some (.exit 0, [(0, .sl c0 1 b), (2, .ptr 0 0 0 0), (3, .undef), (5, .int .i64 n), (6, .ptr 1 0 0 0)], wHeap t ws')
  | 0, i, c, rest, ws, hi, hp, hr, K, hK => by
    have e : i = kk := by omega
    subst e
    simp only [wsI]
    refine ⟨ws, by simp, ?_⟩
    rw [LoopS_eq]
    cases ws <;> simp -implicitDefEqProofs (disch := omega) only [go_sem, Nat.reduceBEq, Nat.reduceAdd, Nat.reduceSub, Nat.reduceMul, Nat.reduceLeDiff, Nat.reduceEqDiff, Nat.reduceLT, Int.reduceNeg, Int.reduceAdd, Int.reduceSub, Int.reduceMul, Int.reduceLE, Int.reduceLT, Int.reduceEq, Int.reduceToNat, reduceCtorEq, evL27x0, B27x0, wHeap, wPtr, wTail, IntWalk.i64_in, Int.lt_irrefl]
  | m + 1, i, c, rest, ws, hi, hp, hr, K, hK => by
    obtain ⟨K, rfl⟩ : ∃ k', K = k' + 1 := ⟨K - 1, by omega⟩
    have hlt : (i : Int) < kk := by omega
    match rest, hp with
    | [], _ =>
      refine ⟨ws, ?_⟩
      rw [LoopS_eq]
      cases ws <;> simp -implicitDefEqProofs (disch := omega) only [go_sem, Nat.reduceBEq, Nat.reduceAdd, Nat.reduceSub, Nat.reduceMul, Nat.reduceLeDiff, Nat.reduceEqDiff, Nat.reduceLT, Int.reduceNeg, Int.reduceAdd, Int.reduceSub, Int.reduceMul, Int.reduceLE, Int.reduceLT, Int.reduceEq, Int.reduceToNat, reduceCtorEq, evL27x0, B27x0, wHeap, wPtr, wTail, hlt, cob_nil, IntWalk.i64_in]
    | [x], _ =>
      refine ⟨ws, ?_⟩
      rw [LoopS_eq]
      cases ws <;> simp -implicitDefEqProofs (disch := omega) only [go_sem, Nat.reduceBEq, Nat.reduceAdd, Nat.reduceSub, Nat.reduceMul, Nat.reduceLeDiff, Nat.reduceEqDiff, Nat.reduceLT, Int.reduceNeg, Int.reduceAdd, Int.reduceSub, Int.reduceMul, Int.reduceLE, Int.reduceLT, Int.reduceEq, Int.reduceToNat, reduceCtorEq, evL27x0, B27x0, wHeap, wPtr, wTail, hlt, cob_nil, cob_cons, IntWalk.i64_in]
    | [x, y], _ =>
      refine ⟨ws, ?_⟩
      rw [LoopS_eq]
      cases ws <;> simp -implicitDefEqProofs (disch := omega) only [go_sem, Nat.reduceBEq, Nat.reduceAdd, Nat.reduceSub, Nat.reduceMul, Nat.reduceLeDiff, Nat.reduceEqDiff, Nat.reduceLT, Int.reduceNeg, Int.reduceAdd, Int.reduceSub, Int.reduceMul, Int.reduceLE, Int.reduceLT, Int.reduceEq, Int.reduceToNat, reduceCtorEq, evL27x0, B27x0, wHeap, wPtr, wTail, hlt, cob_nil, cob_cons, IntWalk.i64_in]
    | x :: y :: z :: r, hp =>
      generalize hrr : z :: r = r1 at hp ⊢
      have h0 : 0 < r1.length := by rw [← hrr]; simp
      have hr1 : r1.length < 1099511627776 := by simp only [List.length_cons] at hp; omega
      clear hrr
      by_cases hn : (rFrom r1).2 = 0
      · rw [wsI_two hn]
        refine ⟨ws, ?_⟩
        obtain ⟨cl, hv⟩ := run_rowFromI (d + 4) c r1 hr1
        have htk : List.take r1.length (cellsOfBytes r1) = cellsOfBytes r1 := List.take_of_length_le (by rw [cob_len]; omega)
        have g1 : ((r1.length : Int) + 2 < 3) = False := eq_false (by omega)
        have g3 : (((rFrom r1).2 : Int) = 0) := by omega
        have g9 : (2 : Int) ≤ (r1.length : Int) + 2 := by omega
        have g12 : ((r1.length : Int) + 2).toNat = r1.length + 2 := by omega
        rw [LoopS_eq]
        cases ws <;> simp -implicitDefEqProofs (disch := omega) only [go_sem, Nat.reduceBEq, Nat.reduceAdd, Nat.reduceSub, Nat.reduceMul, Nat.reduceLeDiff, Nat.reduceEqDiff, Nat.reduceLT, Int.reduceNeg, Int.reduceAdd, Int.reduceSub, Int.reduceMul, Int.reduceLE, Int.reduceLT, Int.reduceEq, Int.reduceToNat, reduceCtorEq, evL27x0, B27x0, wHeap, wPtr, wTail, hlt, cob_cons, cob_len, cob_drop, htk, hv, g1, g3, g9, g12, Nat.add_sub_cancel, IntWalk.i64_in]
      · obtain ⟨cl, step⟩ := step_efI d c c0 b n t kk i (by omega) hk ws hr x y r1 hr1 h0 hn K
        have ih := loop_efI d c0 b n t kk hk m (i + 1) c (r1.drop (rFrom r1).2) (ws ++ [⟨x.toNat, ⟨cl, (rFrom r1).1⟩, decide (y.toNat = 1)⟩]) (by omega) (by rw [List.length_drop]; omega) (by simp [hr]) K (by omega)
        have e : wsI (m + 1) (x :: y :: r1) = match wsI m (r1.drop (rFrom r1).2) with
          | none => none
          | some (ws, n) => some (wrOf x y r1 :: ws, (rFrom r1).2 + n + 2) := by simp only [wsI, if_neg hn]; try (cases wsI m (r1.drop (rFrom r1).2) <;> rfl)
        rw [e, step]
        revert ih
        generalize wsI m (r1.drop (rFrom r1).2) = R
        intro ih
        cases R with
        | none => exact ih
        | some q =>
          obtain ⟨vs, n⟩ := q
          simp only at ih ⊢
          obtain ⟨ws', h1, h2⟩ := ih
          refine ⟨ws', ?_, h2⟩
          rw [h1]
          simp [wrU, wrOf]
end Go.Proofs.Yteaojpfofifmnaa.PE
/- Entries read: the program, as memory of one's own. -/
set_option linter.unusedSimpArgs false
set_option linter.unusedVariables false
set_option maxHeartbeats 8000000
set_option maxRecDepth 20000
namespace Go.Proofs.Yteaojpfofifmnaa.PE
open Go.RowKit

theorem wHeap_pure (t : Int) (ws : List Wr) : pureDAs (wHeap t ws) [.agg [.int .i64 t, wPtr ws]] = some [.agg (Ent.cells ⟨t, ws.isEmpty, ws⟩)] := by
  cases ws with
  | nil => simp only [wHeap, wPtr, wTail, pureDAs, mapO, pureDA, pureD, deepest, Option.map_some, Ent.cells, Ent.v, List.isEmpty_nil, List.map_nil]
  | cons w r =>
    have ht : List.take (r.length + 1) ((w :: r).map Wr.cells) = (w :: r).map Wr.cells := List.take_of_length_le (by simp)
    simp only [wHeap, wPtr, wTail, pureDAs, mapO, pureDA, pureD, deepest, Option.map_some, Ent.cells, Ent.v, List.isEmpty_cons, List.getElem?_cons_succ, List.getElem?_cons_zero, if_true, List.drop_zero, ht]
theorem wHeap_pure1 (t : Int) (ws : List Wr) (tt : Heap) : pureDAs (wHeap t ws ++ tt) [wPtr ws] = some [.sl ws.isEmpty 3 (ws.map Wr.cells)] := by
  cases ws with
  | nil => simp only [wHeap, wPtr, wTail, pureDAs, mapO, pureDA, pureD, deepest, Option.map_some, List.isEmpty_nil, List.map_nil]
  | cons w r =>
    have ht : List.take (r.length + 1) ((w :: r).map Wr.cells) = (w :: r).map Wr.cells := List.take_of_length_le (by simp)
    simp only [wHeap, wPtr, wTail, pureDAs, mapO, pureDA, pureD, deepest, Option.map_some, List.isEmpty_cons, List.cons_append, List.getElem?_cons_succ, List.getElem?_cons_zero, if_true, List.drop_zero, ht]
theorem wsS_none {m : Nat} {b : List UInt8} (h : wsI m b = none) : wsS m b = none := by
  cases hS : wsS m b with
  | none => rfl
  | some q => rw [wsS_wsI m b hS] at h; cases h
-- find27
theorem own_eFrom (d : Nat) (c : Bool) (b : List UInt8) (hb : b.length < 1099511627776) : ∃ v hc ids, runD tab noExt (d + 11) 27 [.sl c 1 (cellsOfBytes b)] [] = some ([.agg [.int .i64 (eFrom b).1.time, v], .int .i64 (eFrom b).2], hc) ∧ OwnF hc (.sub fdWrite) v (.sub ((eFrom b).1.ws.map wrU)) ids ∧ ids.Nodup := by
  obtain ⟨c', hu⟩ := run_unframed (d + 8) c b hb
  unfold eFrom
  cases hU : unF b with
  | none =>
    rw [hU] at hu
    simp only at hu ⊢
    refine ⟨.sl true 3 [], [.box [.int .i64 0, .sl true 3 []]], [], ?_, own_nil rfl, List.nodup_nil⟩
    rw [runD_eq find27 _ _ _ (by simp)]
    simp -implicitDefEqProofs (disch := omega) only [go_sem, Nat.reduceBEq, Nat.reduceAdd, Nat.reduceSub, Nat.reduceMul, Nat.reduceLeDiff, Nat.reduceEqDiff, Nat.reduceLT, Int.reduceNeg, Int.reduceAdd, Int.reduceSub, Int.reduceMul, Int.reduceLE, Int.reduceLT, Int.reduceEq, Int.reduceToNat, reduceCtorEq, hu, entZ]
  | some q =>
    obtain ⟨body, n⟩ := q
    rw [hU] at hu
    simp only at hu ⊢
    obtain ⟨u1, u2, u3⟩ := unF_some hU
    have n0 : ((n : Int) = 0) = False := eq_false (by omega)
    match body, hu, hU, u1, u3 with
    | [], hu, hU, u1, u3 =>
      refine ⟨.sl true 3 [], [.box [.int .i64 0, .sl true 3 []]], [], ?_, own_nil rfl, List.nodup_nil⟩
      rw [runD_eq find27 _ _ _ (by simp)]
      simp -implicitDefEqProofs (disch := omega) only [go_sem, Nat.reduceBEq, Nat.reduceAdd, Nat.reduceSub, Nat.reduceMul, Nat.reduceLeDiff, Nat.reduceEqDiff, Nat.reduceLT, Int.reduceNeg, Int.reduceAdd, Int.reduceSub, Int.reduceMul, Int.reduceLE, Int.reduceLT, Int.reduceEq, Int.reduceToNat, reduceCtorEq, hu, n0, cob_nil, entZ, readS]
    | [x], hu, hU, u1, u3 =>
      refine ⟨.sl true 3 [], [.box [.int .i64 0, .sl true 3 []]], [], ?_, own_nil rfl, List.nodup_nil⟩
      rw [runD_eq find27 _ _ _ (by simp)]
      simp -implicitDefEqProofs (disch := omega) only [go_sem, Nat.reduceBEq, Nat.reduceAdd, Nat.reduceSub, Nat.reduceMul, Nat.reduceLeDiff, Nat.reduceEqDiff, Nat.reduceLT, Int.reduceNeg, Int.reduceAdd, Int.reduceSub, Int.reduceMul, Int.reduceLE, Int.reduceLT, Int.reduceEq, Int.reduceToNat, reduceCtorEq, hu, n0, cob_cons, cob_nil, entZ, readS]
    | t :: m :: rest, hu, hU, u1, u3 =>
      have hm := m.toNat_lt
      have ht := t.toNat_lt
      have l2 : ((rest.length : Int) + 2 < 2) = False := eq_false (by omega)
      have g9 : (2 : Int) ≤ (rest.length : Int) + 2 := by omega
      have g12 : ((rest.length : Int) + 2).toNat = rest.length + 2 := by omega
      have htk : List.take rest.length (cellsOfBytes rest) = cellsOfBytes rest := List.take_of_length_le (by rw [cob_len]; omega)
      have hl := loop_efI d c (cellsOfBytes b) n t.toNat m.toNat (by omega) m.toNat 0 c' rest [] (by omega) (by simp only [List.length_cons] at u1; omega) rfl 1099511627775 (by omega)
      simp only [List.map_nil, List.nil_append, Int.natCast_zero] at hl
      revert hl
      generalize hR : wsI m.toNat rest = R
      intro hl
      cases R with
      | none =>
        obtain ⟨ws', hl⟩ := hl
        simp only [wHeap, wPtr, wTail, go_sem, Nat.reduceBEq, Nat.reduceAdd, Nat.reduceSub, Nat.reduceMul, Nat.reduceLeDiff, Nat.reduceEqDiff, Nat.reduceLT, Int.reduceNeg, Int.reduceAdd, Int.reduceSub, Int.reduceMul, Int.reduceLE, Int.reduceLT, Int.reduceEq, Int.reduceToNat, reduceCtorEq] at hl
        have hrd : readS (t :: m :: rest) = none := by simp only [readS, wsS_none hR]
        rw [hrd]
        refine ⟨.sl true 3 [], wHeap t.toNat ws', [], ?_, own_nil rfl, List.nodup_nil⟩
        rw [runD_eq find27 _ _ _ (by simp)]
        simp -implicitDefEqProofs (disch := omega) only [go_sem, Nat.reduceBEq, Nat.reduceAdd, Nat.reduceSub, Nat.reduceMul, Nat.reduceLeDiff, Nat.reduceEqDiff, Nat.reduceLT, Int.reduceNeg, Int.reduceAdd, Int.reduceSub, Int.reduceMul, Int.reduceLE, Int.reduceLT, Int.reduceEq, Int.reduceToNat, reduceCtorEq, hu, n0, l2, g9, g12, htk, Nat.add_sub_cancel, cob_cons, cob_len, entZ, IntWalk.i64_in]
        rw [hl]
        cases ws' <;> simp -implicitDefEqProofs (disch := omega) only [go_sem, Nat.reduceBEq, Nat.reduceAdd, Nat.reduceSub, Nat.reduceMul, Nat.reduceLeDiff, Nat.reduceEqDiff, Nat.reduceLT, Int.reduceNeg, Int.reduceAdd, Int.reduceSub, Int.reduceMul, Int.reduceLE, Int.reduceLT, Int.reduceEq, Int.reduceToNat, reduceCtorEq, wHeap, wPtr, wTail]
      | some q =>
        obtain ⟨vs, k⟩ := q
        obtain ⟨ws', hws, hl⟩ := hl
        have hlim := wsI_lim (by omega) hR t.toNat vs.isEmpty
        have back := back_iff (c := vs.isEmpty) hU hR
        have heU : entU ⟨(t.toNat : Int), ws'.isEmpty, ws'⟩ = entU ⟨t.toNat, vs.isEmpty, vs⟩ := by simp [entU, hws]
        have hE := entBytes_vs heU
        have hLim' : LimE [⟨(t.toNat : Int), ws'.isEmpty, ws'⟩] := ents_lim (by
          have := ents_len hlim
          simp only [List.map_cons, List.map_nil, ← heU] at this ⊢
          exact this)
        obtain ⟨w, tt, kE, hw⟩ := entB_call d (wHeap t.toNat ws') _ (wHeap_pure t.toNat ws') rfl hLim'
        have heq : ∀ a cc, retP (runD tab noExt (d + 10)) 76 [.sl a 1 (u8s (entBytes ⟨t.toNat, ws'.isEmpty, ws'⟩)), .sl cc 1 (cellsOfBytes (b.take n))] = some [.bool (decide (entBytes ⟨t.toNat, ws'.isEmpty, ws'⟩ = toI (b.take n)))] := fun a cc => by
          rw [cob_u8s]
          exact run_eqB (d + 9) a cc _ _ (by have := entBytes_len ⟨(t.toNat : Int), ws'.isEmpty, ws'⟩; omega)
        obtain ⟨v1, hc1, is1, q1, q2, q3⟩ := own_writesCopy (d + 7) ws'.isEmpty ws' (hLim'.fine.1.2 _ (List.mem_singleton.2 rfl))
        obtain ⟨v, hw2, js, k1, k2, k3, k4, k5, k6⟩ := own_call (h := wHeap t.toNat ws' ++ tt) (args := [wPtr ws']) (wHeap_pure1 t.toNat ws' tt) q1 q2 q3
        have htb : ∀ l : List Int, List.take l.length (u8s l) = u8s l := fun l => List.take_of_length_le (by rw [u8s_len]; omega)
        have gn : (n : Int) ≤ b.length := by omega
        have f0 : hw2[0]? = some (.box [.int .i64 0, .sl true 3 []]) := (k5 0 (by simp [wHeap])).trans rfl
        have f1 : hw2[1]? = some (.box [.int .i64 t.toNat, wPtr ws']) := (k5 1 (by simp [wHeap])).trans rfl
        have z1 : 1 < hw2.length := (List.getElem?_eq_some_iff.1 f1).1
        have z0 : 0 < hw2.length := by omega
        by_cases hq : entBytes ⟨(t.toNat : Int), ws'.isEmpty, ws'⟩ = toI (b.take n)
        · obtain ⟨b1, b2, b3⟩ := back.1 (hE ▸ hq)
          have hrd : readS (t :: m :: rest) = some ⟨t.toNat, vs.isEmpty, vs⟩ := by simp only [readS, b1]; rw [if_pos ⟨b2, b3⟩]
          rw [hrd]
          simp only [decide_eq_true hq] at heq
          refine ⟨v, (hw2.set 1 (.box [.int .i64 t.toNat, v])).set 0 (.box [.int .i64 t.toNat, v]), js, ?_, ?_, k3⟩
          rotate_left
          · rw [← hws]
            refine OwnF_frame _ k2 (fun j hj => ?_)
            have g1 := k4 j hj
            have g3 : 2 ≤ j := by simp only [wHeap, List.cons_append, List.length_cons] at g1; omega
            rw [List.getElem?_set_ne (by omega), List.getElem?_set_ne (by omega)]
          simp only [wHeap, wPtr, wTail, go_sem, Nat.reduceBEq, Nat.reduceAdd, Nat.reduceSub, Nat.reduceMul, Nat.reduceLeDiff, Nat.reduceEqDiff, Nat.reduceLT, Int.reduceNeg, Int.reduceAdd, Int.reduceSub, Int.reduceMul, Int.reduceLE, Int.reduceLT, Int.reduceEq, Int.reduceToNat, reduceCtorEq] at hl
          rw [runD_eq find27 _ _ _ (by simp)]
          simp -implicitDefEqProofs (disch := omega) only [go_sem, Nat.reduceBEq, Nat.reduceAdd, Nat.reduceSub, Nat.reduceMul, Nat.reduceLeDiff, Nat.reduceEqDiff, Nat.reduceLT, Int.reduceNeg, Int.reduceAdd, Int.reduceSub, Int.reduceMul, Int.reduceLE, Int.reduceLT, Int.reduceEq, Int.reduceToNat, reduceCtorEq, hu, n0, l2, g9, g12, htk, Nat.add_sub_cancel, cob_cons, cob_len, entZ, IntWalk.i64_in]
          rw [hl]
          clear hl
          have hv := own_cases k2
          clear k2
          rcases hw with ⟨cw, rfl, h0⟩ | ⟨id, st, clip, rfl, hbk⟩
          · rw [h0] at heq
            simp only [u8s_nil] at heq
            cases ws' <;> simp only [wHeap, wPtr, wTail, List.map_cons, List.cons_append, List.nil_append] at kE k1 f1 ⊢ <;> rcases hv with ⟨cx, rfl⟩ | ⟨idx, stx, mx, clipx, rfl⟩ <;> simp -implicitDefEqProofs (disch := first | omega | (simp only [List.length_set]; omega)) only [go_sem, Nat.reduceBEq, Nat.reduceAdd, Nat.reduceSub, Nat.reduceMul, Nat.reduceLeDiff, Nat.reduceEqDiff, Nat.reduceLT, Int.reduceNeg, Int.reduceAdd, Int.reduceSub, Int.reduceMul, Int.reduceLE, Int.reduceLT, Int.reduceEq, Int.reduceToNat, reduceCtorEq, evC_draw, evD27x1, E27x1, kE, heq, gn, cob_len, cob_take, k1, f0, f1, z0, z1, List.getElem?_set_self, List.getElem?_set_ne, List.length_set, List.set_set, okN]
          · have hte := htb (entBytes ⟨t.toNat, ws'.isEmpty, ws'⟩)
            cases ws' <;> simp only [wHeap, wPtr, wTail, List.map_cons, List.cons_append, List.nil_append] at kE hbk k1 f1 ⊢ <;> rcases hv with ⟨cx, rfl⟩ | ⟨idx, stx, mx, clipx, rfl⟩ <;> simp -implicitDefEqProofs (disch := first | omega | (simp only [List.length_set]; omega)) only [go_sem, Nat.reduceBEq, Nat.reduceAdd, Nat.reduceSub, Nat.reduceMul, Nat.reduceLeDiff, Nat.reduceEqDiff, Nat.reduceLT, Int.reduceNeg, Int.reduceAdd, Int.reduceSub, Int.reduceMul, Int.reduceLE, Int.reduceLT, Int.reduceEq, Int.reduceToNat, reduceCtorEq, evC_draw, evD27x1, E27x1, kE, heq, gn, cob_len, cob_take, hbk, hte, k1, f0, f1, z0, z1, List.getElem?_set_self, List.getElem?_set_ne, List.length_set, List.set_set, okN]
        · have hrd : readS (t :: m :: rest) = none := by
            simp only [readS]
            cases hS : wsS m.toNat rest with
            | none => rfl
            | some q =>
              have := wsS_wsI _ _ hS
              rw [hR] at this
              simp only [Option.some.injEq] at this
              subst this
              simp only
              rw [if_neg (fun h => hq (hE.trans (back.2 ⟨hS, h.1, h.2⟩)))]
          rw [hrd]
          simp only [decide_eq_false hq] at heq
          refine ⟨.sl true 3 [], wHeap t.toNat ws' ++ tt, [], ?_, own_nil rfl, List.nodup_nil⟩
          simp only [wHeap, wPtr, wTail, go_sem, Nat.reduceBEq, Nat.reduceAdd, Nat.reduceSub, Nat.reduceMul, Nat.reduceLeDiff, Nat.reduceEqDiff, Nat.reduceLT, Int.reduceNeg, Int.reduceAdd, Int.reduceSub, Int.reduceMul, Int.reduceLE, Int.reduceLT, Int.reduceEq, Int.reduceToNat, reduceCtorEq] at hl
          rw [runD_eq find27 _ _ _ (by simp)]
          simp -implicitDefEqProofs (disch := omega) only [go_sem, Nat.reduceBEq, Nat.reduceAdd, Nat.reduceSub, Nat.reduceMul, Nat.reduceLeDiff, Nat.reduceEqDiff, Nat.reduceLT, Int.reduceNeg, Int.reduceAdd, Int.reduceSub, Int.reduceMul, Int.reduceLE, Int.reduceLT, Int.reduceEq, Int.reduceToNat, reduceCtorEq, hu, n0, l2, g9, g12, htk, Nat.add_sub_cancel, cob_cons, cob_len, entZ, IntWalk.i64_in]
          rw [hl]
          clear hl
          rcases hw with ⟨cw, rfl, h0⟩ | ⟨id, st, clip, rfl, hbk⟩
          · rw [h0] at heq
            simp only [u8s_nil] at heq
            cases ws' <;> simp only [wHeap, wPtr, wTail, List.map_cons, List.cons_append, List.nil_append] at kE  ⊢ <;> simp -implicitDefEqProofs (disch := first | omega | (simp only [List.length_set]; omega)) only [go_sem, Nat.reduceBEq, Nat.reduceAdd, Nat.reduceSub, Nat.reduceMul, Nat.reduceLeDiff, Nat.reduceEqDiff, Nat.reduceLT, Int.reduceNeg, Int.reduceAdd, Int.reduceSub, Int.reduceMul, Int.reduceLE, Int.reduceLT, Int.reduceEq, Int.reduceToNat, reduceCtorEq, evC_draw, evD27x1, E27x1, kE, heq, gn, cob_len, cob_take, List.set_cons_zero]
          · have hte := htb (entBytes ⟨t.toNat, ws'.isEmpty, ws'⟩)
            cases ws' <;> simp only [wHeap, wPtr, wTail, List.map_cons, List.cons_append, List.nil_append] at kE hbk  ⊢ <;> simp -implicitDefEqProofs (disch := first | omega | (simp only [List.length_set]; omega)) only [go_sem, Nat.reduceBEq, Nat.reduceAdd, Nat.reduceSub, Nat.reduceMul, Nat.reduceLeDiff, Nat.reduceEqDiff, Nat.reduceLT, Int.reduceNeg, Int.reduceAdd, Int.reduceSub, Int.reduceMul, Int.reduceLE, Int.reduceLT, Int.reduceEq, Int.reduceToNat, reduceCtorEq, evC_draw, evD27x1, E27x1, kE, heq, gn, cob_len, cob_take, hbk, hte, List.set_cons_zero]
end Go.Proofs.Yteaojpfofifmnaa.PE
/- A list of bytes that comes in, as the evaluator reads it. -/
set_option linter.unusedVariables false
set_option linter.unusedSimpArgs false
namespace Go.Proofs.Yteaojpfofifmnaa.PE
open Go.RowKit

def IsRow (w : World) (a : Option Addr) (len cap : Nat) : Prop :=
  (a = none ∧ len = 0 ∧ cap = 0) ∨
  ∃ (x : Addr) (zs : List Int), a = some x ∧ len ≤ cap ∧ cap ≤ maxLen ∧ zs.length = cap ∧ (∀ i, i < zs.length → w.cell? (x.add i) = some (.int .u8 (zs.getD i 0))) ∧ ∀ n ∈ zs, (Lit.int .u8 n).wf = true

theorem IsRow.rep {w : World} {a : Option Addr} {len cap : Nat} (h : IsRow w a len cap) : ∃ l : List UInt8, l.length ≤ maxLen ∧ RepA w (fun b => b < w.heap.size) (.slice a len cap) (.sl false 1 (cellsOfBytes l)) := by
  rcases h with ⟨rfl, rfl, rfl⟩ | ⟨x, zs, rfl, h1, h2, h3, h4, h5⟩
  · exact ⟨[], Nat.zero_le _, rep_empty (by decide) (fun h => by cases h)⟩
  · have hb : ∀ i, i < zs.length → 0 ≤ zs.getD i 0 ∧ zs.getD i 0 < 256 := fun i hi => by
      have := h5 (zs.getD i 0) (by rw [List.getD_eq_getElem?_getD, List.getElem?_eq_getElem hi]; exact List.getElem_mem hi)
      simp only [Lit.wf, decide_eq_true_eq] at this
      have h1 : IntKind.u8.min = 0 := rfl
      have h2 : IntKind.u8.max = 255 := rfl
      simp only [Bool.and_eq_true, decide_eq_true_eq, h1, h2] at this
      omega
    refine ⟨(zs.take len).map fun z => UInt8.ofNat z.toNat, by simp; omega, ?_⟩
    refine Rep.sl (some x) len cap false _ 1 (fun j _ => .int .u8 (zs.getD j 0)) (by simp [cellsOfBytes]; omega) h1 (fun h => by cases h) (by decide) (fun y hy => ?_) (fun hn => ?_) (fun j c y z hy hz => ?_)
    · simp only [cellsOfBytes, List.mem_map] at hy
      obtain ⟨b, _, rfl⟩ := hy
      rfl
    · obtain ⟨g, o, sp⟩ := x
      have h0 := h4 0 (by omega)
      have hsp : sp = none := by
        simp only [Addr.add, if_true] at h0
        unfold World.cell? at h0
        cases sp with
        | none => rfl
        | some s => simp at h0; split at h0 <;> cases h0
      subst hsp
      refine ⟨g, o, rfl, ?_, fun j c y z hy hz => ?_⟩
      · simp only [Addr.add, if_true] at h0
        unfold World.cell? at h0
        rcases Nat.lt_or_ge g w.heap.size with hg | hg
        · exact hg
        · rw [Array.getElem?_eq_none hg] at h0; cases h0
      · have hj : j < ((zs.take len).map fun z => UInt8.ofNat z.toNat).length := by
          have := (List.getElem?_eq_some_iff.1 hy).1
          simpa [cellsOfBytes] using this
        simp only [List.length_map, List.length_take] at hj
        simp only [cellsOfBytes, List.getElem?_map] at hy
        obtain ⟨b, _, rfl⟩ := Option.map_eq_some_iff.1 hy
        have hc : c = 0 := by
          have := (List.getElem?_eq_some_iff.1 hz).1
          simp at this
          omega
        subst hc
        have := h4 j (by omega)
        rw [add0] at this
        simpa using this
    · have hj : j < zs.length := by
        have := (List.getElem?_eq_some_iff.1 hy).1
        simp [cellsOfBytes] at this
        omega
      have hjl : j < len := by
        have := (List.getElem?_eq_some_iff.1 hy).1
        simp [cellsOfBytes] at this
        omega
      have hbj := hb j hj
      have hc : c = 0 := by
        simp only [cellsOfBytes, List.getElem?_map] at hy
        obtain ⟨b, _, rfl⟩ := Option.map_eq_some_iff.1 hy
        have := (List.getElem?_eq_some_iff.1 hz).1
        simp at this
        omega
      subst hc
      rw [List.getD_eq_getElem?_getD, List.getElem?_eq_getElem hj] at hbj
      simp [cellsOfBytes, List.getElem?_take_of_lt hjl, List.getElem?_eq_getElem hj] at hy
      subst hy
      simp at hz
      subst hz
      simp only [Option.getD_some] at hbj
      have e : ((UInt8.ofNat (zs[j]).toNat).toNat : Int) = zs[j] := by
        simp
        omega
      simp only [List.getD_eq_getElem?_getD, List.getElem?_eq_getElem hj, Option.getD_some]
      rw [show max zs[j] 0 % 256 = zs[j] by omega]
      exact .int _ _
end Go.Proofs.Yteaojpfofifmnaa.PE
/- Arguments of any plain kind, as they are read: values of the evaluator. -/
set_option linter.unusedVariables false
set_option linter.unusedSimpArgs false
namespace Go.Proofs.Yteaojpfofifmnaa.PE
open Go.RowKit

mutual
def tyF (P : Program) : Nat → TypeId → Fd → Bool
  | 0, _, _ => false
  | n + 1, t, .int k => match P.underlying t with
    | some (.int k') => decide (k' = k)
    | _ => false
  | n + 1, t, .bool => match P.underlying t with
    | some .bool => true
    | _ => false
  | n + 1, t, .str => match P.underlying t with
    | some .string => true
    | _ => false
  | n + 1, t, .sub fs => match P.underlying t with
    | some (.slice e) => decide (P.cellsOf e = fs.length) && decide (0 < fs.length) && tyR P n e fs
    | _ => false
def tyR (P : Program) : Nat → TypeId → List Fd → Bool
  | 0, _, _ => false
  | n + 1, t, fs => match P.underlying t with
    | some (.struct flds) => decide (P.cellsOf t = fs.length) && tyS P n flds.toList 0 fs
    | _ => match fs with
      | [f] => tyF P n t f
      | _ => false
def tyS (P : Program) : Nat → List Field → Nat → List Fd → Bool
  | 0, _, _, _ => false
  | n + 1, [], _, fs => fs.isEmpty
  | n + 1, fl :: r, off, fs => decide (fl.offset = off) && tyR P n fl.type (fs.take (P.cellsOf fl.type)) && decide (P.cellsOf fl.type ≤ fs.length) && tyS P n r (off + P.cellsOf fl.type) (fs.drop (P.cellsOf fl.type))
end

def B63 : Nat := 9223372036854775807
section
variable {H : Type} {enc : TypeId × Value → H} {P : Program} {w : World} {base : Nat} {spare : Nat → Bool} {held : Bool}

/-- Cells and what they are. -/
def Got (w : World) (fs : List Fd) (cs : List Value) : Prop := ∃ (ps : List V) (us : List U), PurR fs ps us ∧ LenR B63 B63 fs us ∧ ps.length = cs.length ∧ ∀ (i : Nat) (y : V), ps[i]? = some y → ∃ u, cs[i]? = some u ∧ Rep w (fun b => b < w.heap.size) u y
theorem Got.one {f : Fd} {v : Value} {p : V} {u : U} (h1 : PurF f p u) (h2 : LenF B63 B63 f u) (h3 : Rep w (fun b => b < w.heap.size) v p) : Got w [f] [v] := by
  refine ⟨[p], [u], by simp only [PurR]; exact ⟨p, [], u, [], rfl, rfl, h1, rfl, rfl⟩, by simp only [LenR]; exact ⟨h2, trivial⟩, rfl, fun i y hy => ?_⟩
  cases i with
  | zero => simp at hy; subst hy; exact ⟨v, rfl, h3⟩
  | succ i => simp at hy
theorem PurR_len : ∀ {fs : List Fd} {ps : List V} {us : List U}, PurR fs ps us → ps.length = fs.length ∧ us.length = fs.length
  | [], _, _, h => by simp only [PurR] at h; rw [h.1, h.2]; exact ⟨rfl, rfl⟩
  | f :: fs, _, _, h => by
    simp only [PurR] at h
    obtain ⟨v, c', u, x', rfl, rfl, _, h2⟩ := h
    have := PurR_len h2
    simp [this.1, this.2]
theorem PurR_app : ∀ {f1 f2 : List Fd} {p1 p2 : List V} {u1 u2 : List U}, PurR f1 p1 u1 → PurR f2 p2 u2 → PurR (f1 ++ f2) (p1 ++ p2) (u1 ++ u2)
  | [], _, _, _, _, _, h, h2 => by simp only [PurR] at h; rw [h.1, h.2]; exact h2
  | f :: f1, f2, _, p2, _, u2, h, h2 => by
    simp only [PurR] at h
    obtain ⟨v, c', u, x', rfl, rfl, h3, h4⟩ := h
    show PurR (f :: (f1 ++ f2)) _ _
    simp only [PurR]
    exact ⟨v, c' ++ p2, u, x' ++ u2, rfl, rfl, h3, PurR_app h4 h2⟩
theorem LenR_app {n m : Nat} : ∀ {f1 f2 : List Fd} {u1 u2 : List U}, u1.length = f1.length → LenR n m f1 u1 → LenR n m f2 u2 → LenR n m (f1 ++ f2) (u1 ++ u2)
  | [], _, u1, _, hl, _, h2 => by
    have : u1 = [] := List.eq_nil_of_length_eq_zero hl
    subst this
    exact h2
  | f :: f1, f2, u :: u1, u2, hl, h, h2 => by
    show LenR n m (f :: (f1 ++ f2)) (u :: (u1 ++ u2))
    simp only [LenR] at h ⊢
    exact ⟨h.1, LenR_app (by simpa using hl) h.2 h2⟩
  | _ :: _, _, [], _, hl, _, _ => by simp at hl
theorem Got.app {f1 f2 : List Fd} {c1 c2 : List Value} (h1 : Got w f1 c1) (h2 : Got w f2 c2) : Got w (f1 ++ f2) (c1 ++ c2) := by
  obtain ⟨p1, u1, a1, a2, a3, a4⟩ := h1
  obtain ⟨p2, u2, b1, b2, b3, b4⟩ := h2
  refine ⟨p1 ++ p2, u1 ++ u2, PurR_app a1 b1, LenR_app (PurR_len a1).2 a2 b2, by simp [a3, b3], fun i y hy => ?_⟩
  rcases Nat.lt_or_ge i p1.length with hi | hi
  · rw [List.getElem?_append_left hi] at hy
    obtain ⟨u, hu, hr⟩ := a4 i y hy
    exact ⟨u, by rw [List.getElem?_append_left (by omega)]; exact hu, hr⟩
  · rw [List.getElem?_append_right hi] at hy
    obtain ⟨u, hu, hr⟩ := b4 _ y hy
    exact ⟨u, by rw [List.getElem?_append_right (by omega), ← a3]; exact hu, hr⟩

theorem plain_addr {a : Addr} {v : Value} (h : w.cell? a = some v) : ∃ g o, a = ⟨g, o, none⟩ ∧ g < w.heap.size := by
  obtain ⟨g, o, sp⟩ := a
  unfold World.cell? at h
  have hg : g < w.heap.size := by
    rcases Nat.lt_or_ge g w.heap.size with h1 | h1
    · exact h1
    · rw [Array.getElem?_eq_none h1] at h; cases sp <;> simp at h
  cases sp with
  | none => exact ⟨g, o, rfl, hg⟩
  | some s => simp at h; split at h <;> cases h

/-- A slice out of its elements. -/
theorem got_slice {fs : List Fd} {a : Addr} {len cap : Nat} (hpos : 0 < fs.length) (hl : len ≤ cap) (hm : cap ≤ maxLen) (hx : ∀ i, i < len → ∃ cs', w.cells? base (a.add (i * fs.length)) fs.length = some cs' ∧ Got w fs cs') :
    Got w [.sub fs] [.slice (some a) len cap] := by
  have hx' : ∀ i, i < len → ∃ q : List V × List U × List Value, w.cells? base (a.add (i * fs.length)) fs.length = some q.2.2 ∧ PurR fs q.1 q.2.1 ∧ LenR B63 B63 fs q.2.1 ∧ q.1.length = q.2.2.length ∧ ∀ (j : Nat) (y : V), q.1[j]? = some y → ∃ u, q.2.2[j]? = some u ∧ Rep w (fun b => b < w.heap.size) u y := by
    intro i hi
    obtain ⟨cs', h1, ps, us, h2, h3, h4, h5⟩ := hx i hi
    exact ⟨(ps, us, cs'), h1, h2, h3, h4, h5⟩
  obtain ⟨q, hq⟩ := Go.Deep.choose_lt hx'
  have hzip : ∀ (n : Nat), n ≤ len → Zip2 (PurR fs) ((List.range n).map fun i => (q i).1) ((List.range n).map fun i => (q i).2.1) ∧ AllU (LenR B63 B63 fs) ((List.range n).map fun i => (q i).2.1) := by
    have z2 : ∀ {l1 : List (List V)} {l2 : List (List U)} {c : List V} {x : List U}, Zip2 (PurR fs) l1 l2 → PurR fs c x → Zip2 (PurR fs) (l1 ++ [c]) (l2 ++ [x]) := by
      intro l1
      induction l1 with
      | nil => intro l2 c x h hc; cases l2 with
        | nil => exact ⟨hc, trivial⟩
        | cons b bs => exact h.elim
      | cons a l1 ih => intro l2 c x h hc; cases l2 with
        | nil => exact h.elim
        | cons b bs => exact ⟨h.1, ih h.2 hc⟩
    have a2 : ∀ {l2 : List (List U)} {x : List U}, AllU (LenR B63 B63 fs) l2 → LenR B63 B63 fs x → AllU (LenR B63 B63 fs) (l2 ++ [x]) := by
      intro l2
      induction l2 with
      | nil => intro x _ hx; exact ⟨hx, trivial⟩
      | cons b bs ih => intro x h hx; exact ⟨h.1, ih h.2 hx⟩
    intro n
    induction n with
    | zero => intro _; exact ⟨trivial, trivial⟩
    | succ n ih =>
      intro hn
      obtain ⟨i1, i2⟩ := ih (by omega)
      obtain ⟨_, b1, b2, _⟩ := hq n (by omega)
      rw [List.range_succ, List.map_append, List.map_append]
      exact ⟨z2 i1 b1, a2 i2 b2⟩
  obtain ⟨z1, z2⟩ := hzip len (Nat.le_refl _)
  have hml : maxLen = 9223372036854775807 := by decide
  refine Got.one (p := .sl false fs.length ((List.range len).map fun i => (q i).1)) (u := .sub ((List.range len).map fun i => (q i).2.1)) ?_ ?_ ?_
  · simp only [PurF]
    exact ⟨false, _, _, rfl, rfl, z1⟩
  · simp only [LenF, List.length_map, List.length_range]
    exact ⟨by unfold B63; omega, z2⟩
  · have hlen : ∀ j x, ((List.range len).map fun i => (q i).1)[j]? = some x → j < len ∧ x = (q j).1 := by
      intro j x hx
      rw [List.getElem?_map] at hx
      obtain ⟨k, hk, rfl⟩ := Option.map_eq_some_iff.1 hx
      have hj : j < len := by
        have := (List.getElem?_eq_some_iff.1 hk).1
        simpa using this
      rw [List.getElem?_range hj] at hk
      injection hk with hk
      subst hk
      exact ⟨hj, rfl⟩
    have hcell : ∀ (j c : Nat) (y : V), j < len → (q j).1[c]? = some y → ∃ u, (q j).2.2[c]? = some u ∧ w.cell? ((a.add (j * fs.length)).add c) = some u ∧ Rep w (fun b => b < w.heap.size) u y := by
      intro j c y hj hy
      obtain ⟨h1, h2, h3, h4, h5⟩ := hq j hj
      obtain ⟨_, h6, h7⟩ := World.cells?_some h1
      obtain ⟨u, hu, hr⟩ := h5 c y hy
      have hc : c < fs.length := by
        have := (List.getElem?_eq_some_iff.1 hu).1
        omega
      exact ⟨u, hu, (h7 c hc).trans hu, hr⟩
    refine Rep.sl (some a) len cap false _ fs.length (fun j c => ((q j).2.2[c]?).getD undef) (by simp) hl (fun e => by cases e) hpos (fun x hx => ?_) (fun hn => ?_) (fun j c x y hx hy => ?_)
    · obtain ⟨j, hj⟩ := List.getElem?_of_mem hx
      obtain ⟨h1, rfl⟩ := hlen j x hj
      exact (PurR_len (hq j h1).2.1).1
    · have h0 := (PurR_len (hq 0 hn).2.1).1
      have hy0 : (q 0).1[0]? = some (q 0).1[0] := List.getElem?_eq_getElem (by omega)
      obtain ⟨u0, _, c0, _⟩ := hcell 0 0 _ hn hy0
      rw [Nat.zero_mul] at c0
      have ha : (a.add 0).add 0 = a := by simp [Addr.add]
      rw [ha] at c0
      obtain ⟨g, o, rfl, hg⟩ := plain_addr c0
      refine ⟨g, o, rfl, hg, fun j c x y hx hy => ?_⟩
      obtain ⟨h1, rfl⟩ := hlen j x hx
      obtain ⟨u, hu, hc, _⟩ := hcell j c y h1 hy
      rw [add0, add0] at hc
      rw [hc, hu]
      rfl
    · obtain ⟨h1, rfl⟩ := hlen j x hx
      obtain ⟨u, hu, _, hr⟩ := hcell j c y h1 hy
      show Rep w _ (((q j).2.2[c]?).getD undef) y
      rw [hu]
      exact hr

mutual
theorem gotF : ∀ (n : Nat) {t : TypeId} {f : Fd} {fuel : Nat} {cs : List Value} {x : DataW H × List MemPlace}, tyF P n t f = true → DataW.trod enc P w base spare held fuel t cs = some x → Got w [f] cs
  | 0, _, _, _, _, _, ht, _ => by simp [tyF] at ht
  | n + 1, t, .int k, fuel, cs, x, ht, h => by
    simp only [tyF] at ht
    split at ht
    · rename_i k' hu
      simp only [decide_eq_true_eq] at ht
      subst ht
      obtain ⟨m, rfl, _, _⟩ := DataW.trod_int hu h
      exact Got.one (p := .int k' m) (u := .int m) (by simp only [PurF]; exact ⟨m, rfl, rfl⟩) (by simp [LenF]) (.int _ _)
    · cases ht
  | n + 1, t, .bool, fuel, cs, x, ht, h => by
    simp only [tyF] at ht
    split at ht
    · rename_i hu
      obtain ⟨m, rfl, _⟩ := DataW.trod_bool hu h
      exact Got.one (p := .bool m) (u := .bool m) (by simp only [PurF]; exact ⟨m, rfl, rfl⟩) (by simp [LenF]) (.bool _)
    · cases ht
  | n + 1, t, .str, fuel, cs, x, ht, h => by
    simp only [tyF] at ht
    split at ht
    · rename_i hu
      obtain ⟨m, rfl, _, hm⟩ := DataW.trod_string hu h
      have hml : maxLen = 9223372036854775807 := by decide
      exact Got.one (p := .str m) (u := .str m) (by simp only [PurF]; exact ⟨m, rfl, rfl⟩) (by simp only [LenF]; unfold B63; omega) (.str _)
    · cases ht
  | n + 1, t, .sub fs, fuel, cs, x, ht, h => by
    simp only [tyF] at ht
    split at ht
    · rename_i e hu
      simp only [Bool.and_eq_true, decide_eq_true_eq] at ht
      obtain ⟨⟨hc, hpos⟩, hr⟩ := ht
      rcases Go.Deep.open_slice hu h with ⟨rfl, _⟩ | ⟨a, len, cap, m, k, D, Pl, rfl, hb, hl, hm, hmm, _, hx⟩
      · exact Got.one (p := .sl true fs.length []) (u := .sub []) (by rw [PurF]; exact ⟨true, [], [], rfl, rfl, trivial⟩) (by simp only [LenF]; exact ⟨Nat.zero_le _, trivial⟩) (rep_empty hpos (fun _ => rfl))
      · refine got_slice (base := base) hpos hl hm (fun i hi => ?_)
        obtain ⟨cs', h1, h2⟩ := hx i (by rw [hmm]; split <;> omega)
        rw [hc] at h1
        exact ⟨cs', h1, gotR n hr h2⟩
    · cases ht
theorem gotR : ∀ (n : Nat) {t : TypeId} {fs : List Fd} {fuel : Nat} {cs : List Value} {x : DataW H × List MemPlace}, tyR P n t fs = true → DataW.trod enc P w base spare held fuel t cs = some x → Got w fs cs
  | 0, _, _, _, _, _, ht, _ => by simp [tyR] at ht
  | n + 1, t, fs, fuel, cs, x, ht, h => by
    simp only [tyR] at ht
    split at ht
    · rename_i flds hu
      simp only [Bool.and_eq_true, decide_eq_true_eq] at ht
      obtain ⟨xs, k, _, _, hcl, hxl, hf⟩ := DataW.trod_struct hu h
      refine gotS n (cs := cs) (off := 0) (fuel := k) ht.2 (by omega) (fun i fl hi => ?_)
      have hlt : i < xs.length := by
        have := (List.getElem?_eq_some_iff.1 hi).1
        simp at this
        omega
      rw [Array.getElem?_toList] at hi
      exact ⟨xs[i], by rw [hf i fl hi, List.getElem?_eq_getElem hlt]⟩
    · split at ht
      · rename_i f
        exact gotF n ht h
      · cases ht
theorem gotS : ∀ (n : Nat) {flds : List Field} {off : Nat} {fs : List Fd} {fuel : Nat} {cs : List Value}, tyS P n flds off fs = true → cs.length = off + fs.length → (∀ (i : Nat) (fl : Field), flds[i]? = some fl → ∃ x, DataW.trod enc P w base spare held fuel fl.type ((cs.drop fl.offset).take (P.cellsOf fl.type)) = some x) → Got w fs (cs.drop off)
  | 0, _, _, _, _, _, ht, _, _ => by simp [tyS] at ht
  | n + 1, [], off, fs, fuel, cs, ht, hl, _ => by
    simp only [tyS, List.isEmpty_iff] at ht
    subst ht
    rw [List.drop_of_length_le (by simp at hl; omega)]
    exact ⟨[], [], by simp [PurR], by simp [LenR], rfl, fun i y hy => by simp at hy⟩
  | n + 1, fl :: r, off, fs, fuel, cs, ht, hl, hx => by
    simp only [tyS, Bool.and_eq_true, decide_eq_true_eq] at ht
    obtain ⟨⟨⟨ho, h1⟩, hle⟩, h2⟩ := ht
    obtain ⟨x, hx0⟩ := hx 0 fl rfl
    rw [ho] at hx0
    have g1 := gotR n h1 hx0
    have g2 := gotS n (cs := cs) (off := off + P.cellsOf fl.type) h2 (by rw [List.length_drop]; omega) (fun i f hi => hx (i + 1) f (by simpa using hi))
    have g := g1.app g2
    rw [List.take_append_drop] at g
    rw [← List.drop_drop, List.take_append_drop] at g
    exact g
end
end
end Go.Proofs.Yteaojpfofifmnaa.PE
/- A list of bytes that comes in, as a tree. -/
set_option linter.unusedSimpArgs false
set_option linter.unusedVariables false
namespace Go.Proofs.Yteaojpfofifmnaa.PE
open Go.RowKit

def bsU (l : List UInt8) : List (List U) := l.map fun b => [U.int b.toNat]
end Go.Proofs.Yteaojpfofifmnaa.PE
/- Entries read: what both functions come to, for the exact statement. -/
set_option linter.unusedSimpArgs false
set_option linter.unusedVariables false
set_option maxHeartbeats 4000000
namespace Go.Proofs.Yteaojpfofifmnaa.PE
open Go.RowKit

end Go.Proofs.Yteaojpfofifmnaa.PE
/- Logs read: the reference. -/
set_option linter.unusedSimpArgs false
set_option linter.unusedVariables false
set_option maxHeartbeats 8000000
set_option maxRecDepth 20000
namespace Go.Proofs.Yteaojpfofifmnaa.PE
open Go.RowKit

/-- The entries that bytes begin with, behind others, as long as all are a log. -/
def lFrom : Nat → List Ent → List UInt8 → List Ent
  | 0, out, _ => out
  | f + 1, out, b => if (eFrom b).2 = 0 then out else if logOk (out ++ [(eFrom b).1]) = true then lFrom f (out ++ [(eFrom b).1]) (b.drop (eFrom b).2) else out
end Go.Proofs.Yteaojpfofifmnaa.PE
/- Logs read: both functions. -/
set_option linter.unusedSimpArgs false
set_option linter.unusedVariables false
set_option maxHeartbeats 8000000
set_option maxRecDepth 20000
namespace Go.Proofs.Yteaojpfofifmnaa.PE
open Go.RowKit

-- find33
end Go.Proofs.Yteaojpfofifmnaa.PE
/- Logs read: what both functions come to, for the exact statement. -/
set_option linter.unusedSimpArgs false
set_option linter.unusedVariables false
set_option maxHeartbeats 4000000
set_option maxRecDepth 20000
namespace Go.Proofs.Yteaojpfofifmnaa.PE
open Go.RowKit

end Go.Proofs.Yteaojpfofifmnaa.PE
/- A log that is read is written back as the bytes that it took, and these are read as that log. -/
set_option linter.unusedSimpArgs false
set_option linter.unusedVariables false
namespace Go.Proofs.Yteaojpfofifmnaa.PE
open Go.RowKit

/-- How many bytes are read as entries. -/
def lN : Nat → List Ent → List UInt8 → Nat
  | 0, _, _ => 0
  | f + 1, out, b => if (eFrom b).2 = 0 then 0 else if logOk (out ++ [(eFrom b).1]) = true then (eFrom b).2 + lN f (out ++ [(eFrom b).1]) (b.drop (eFrom b).2) else 0
end Go.Proofs.Yteaojpfofifmnaa.PE
/- What is written is read back, whatever is behind it. -/
set_option linter.unusedSimpArgs false
set_option linter.unusedVariables false
namespace Go.Proofs.Yteaojpfofifmnaa.PE
open Go.RowKit

theorem toI_inj {a b : List UInt8} (h : toI a = toI b) : a = b := by
  refine (List.map_inj_right (fun x y hxy => ?_)).1 h
  exact UInt8.toNat_inj.1 (by omega)
theorem toI_split {B : List UInt8} {x y : List Int} (h : toI B = x ++ y) : ∃ B1 B2, B = B1 ++ B2 ∧ toI B1 = x ∧ toI B2 = y := by
  obtain ⟨B1, B2, e, h1, h2⟩ := List.map_eq_append_iff.1 h
  exact ⟨B1, B2, e, h1, h2⟩
theorem toI_uncons {B : List UInt8} {n : Int} {y : List Int} (h : toI B = n :: y) : ∃ b B', B = b :: B' ∧ (b.toNat : Int) = n ∧ toI B' = y := by
  obtain ⟨b, B', e, h1, h2⟩ := List.map_eq_cons_iff.1 h
  exact ⟨b, B', e, h1, h2⟩
theorem toI_none {B : List UInt8} (h : toI B = []) : B = [] := List.map_eq_nil_iff.1 h
theorem strB_toI (s : ByteArray) : strB s = toI s.data.toList := rfl
theorem toS_list (s : ByteArray) : toS s.data.toList = s := rfl
theorem vFrom_write {v : Val} (h : v.ok = true) {B : List UInt8} (hB : toI B = v.bytes) (r : List UInt8) : vFrom (B ++ r) = (v, B.length) := by
  obtain ⟨k, n, s⟩ := v
  have hk := ok_kinds h
  simp only at hk
  rcases hk with ⟨rfl, rfl, rfl⟩ | ⟨rfl, rfl, k2, k3⟩ | ⟨rfl, rfl, k2⟩ | ⟨rfl, rfl, k2, k3⟩
  · have hB' : toI B = [0] := hB
    obtain ⟨b, B', rfl, h1, h2⟩ := toI_uncons hB'
    obtain rfl := toI_none h2
    have hb : b.toNat = 0 := by omega
    cases r with
    | nil => simp only [List.append_nil, vFrom, hb, if_true]; rfl
    | cons x r => simp only [List.cons_append, List.nil_append, vFrom, hb, if_true]; rfl
  · have hB' : toI B = [1, (n + 10000) / 256, (n + 10000) % 256] := hB
    obtain ⟨b, B', rfl, h1, h2⟩ := toI_uncons hB'
    obtain ⟨x, B', rfl, h3, h2⟩ := toI_uncons h2
    obtain ⟨y, B', rfl, h4, h2⟩ := toI_uncons h2
    obtain rfl := toI_none h2
    have hb0 : ¬ b.toNat = 0 := by omega
    have hb1 : b.toNat = 1 := by omega
    have hn : (x.toNat : Int) * 256 + y.toNat - 10000 = n := by omega
    simp only [List.cons_append, List.nil_append, vFrom, if_neg hb0, if_pos hb1, hn, vChk, if_pos h]
    rfl
  · have hB' : toI B = 2 :: (s.size : Int) :: strB s := hB
    obtain ⟨b, B', rfl, h1, h2⟩ := toI_uncons hB'
    obtain ⟨x, B', rfl, h3, h2⟩ := toI_uncons h2
    rw [strB_toI] at h2
    obtain rfl := toI_inj h2
    have hl : s.data.toList.length = s.size := str_len s
    have hb0 : ¬ b.toNat = 0 := by omega
    have hb1 : ¬ b.toNat = 1 := by omega
    have hb2 : b.toNat = 2 := by omega
    have hx : x.toNat = s.data.toList.length := by omega
    have hle : x.toNat ≤ (s.data.toList ++ r).length := by rw [List.length_append]; omega
    have htk : (s.data.toList ++ r).take x.toNat = s.data.toList := by rw [hx, List.take_left]
    simp only [List.cons_append, vFrom, if_neg hb0, if_neg hb1, if_pos hb2, if_pos hle, htk, toS_list, vChk, if_pos h, List.length_cons]
    rw [hx, Nat.add_comm]
  · have hB' : toI B = [3, n] := hB
    obtain ⟨b, B', rfl, h1, h2⟩ := toI_uncons hB'
    obtain ⟨x, B', rfl, h3, h2⟩ := toI_uncons h2
    obtain rfl := toI_none h2
    have hb0 : ¬ b.toNat = 0 := by omega
    have hb1 : ¬ b.toNat = 1 := by omega
    have hb2 : ¬ b.toNat = 2 := by omega
    have hb3 : b.toNat = 3 := by omega
    simp only [List.cons_append, List.nil_append, vFrom, if_neg hb0, if_neg hb1, if_neg hb2, if_pos hb3, h3, vChk, if_pos h]
    rfl
theorem bytes_pos (v : Val) : 0 < v.bytes.length := by simp [Val.bytes]
theorem vsFrom_write : ∀ (vs : List Val), (∀ v ∈ vs, v.ok = true) → ∀ {B : List UInt8}, toI B = vs.flatMap Val.bytes → ∀ r, vsFrom vs.length (B ++ r) = some (vs, B.length)
  | [], _, B, hB, r => by
    obtain rfl := toI_none hB
    rfl
  | v :: vs, h, B, hB, r => by
    rw [List.flatMap_cons] at hB
    obtain ⟨B1, B2, rfl, h1, h2⟩ := toI_split hB
    have hv := vFrom_write (h v (by simp)) h1 (B2 ++ r)
    have hl : 0 < B1.length := by
      have := congrArg List.length h1
      rw [toI_len] at this
      have := bytes_pos v
      omega
    have ih := vsFrom_write vs (fun w hw => h w (by simp [hw])) h2 r
    rw [List.append_assoc]
    simp only [List.length_cons, vsFrom, hv, if_neg (show ¬ B1.length = 0 by omega), List.drop_left, ih, List.length_append]
theorem rFrom_write {vs : List Val} (h : rowOk vs = true) {B : List UInt8} (hB : toI B = rowBytes vs) (r : List UInt8) : rFrom (B ++ r) = (vs, B.length) := by
  obtain ⟨h1, h2⟩ := rowOk_at h
  rw [rowBytes_eq] at hB
  obtain ⟨k, B', rfl, e1, e2⟩ := toI_uncons hB
  have hk : k.toNat = vs.length := by omega
  rw [List.cons_append, rFrom_eq (by omega), hk, vsFrom_write vs h1 e2 r]
  simp only [List.length_cons]
  rw [Nat.add_comm]
theorem rowBytes_pos (vs : List Val) : 0 < (rowBytes vs).length := by rw [rowBytes_eq]; simp
theorem wsS_write : ∀ (ws : List Wr), (∀ w ∈ ws, w.one = true) → ∀ {B : List UInt8}, toI B = ws.flatMap wrBytes → ∀ r, ∃ ws', wsS ws.length (B ++ r) = some (ws', B.length) ∧ ws'.map wrU = ws.map wrU
  | [], _, B, hB, r => by
    obtain rfl := toI_none hB
    exact ⟨[], rfl, rfl⟩
  | w :: ws, h, B, hB, r => by
    rw [List.flatMap_cons] at hB
    obtain ⟨B1, B2, rfl, h1, h2⟩ := toI_split hB
    have h1' : toI B1 = w.key :: goneI w.gone :: rowBytes w.row.vs := h1
    obtain ⟨x, B1, rfl, e1, h3⟩ := toI_uncons h1'
    obtain ⟨y, B1, rfl, e2, h3⟩ := toI_uncons h3
    obtain ⟨_, _, hr⟩ := wr_one (h w (by simp))
    have hf := rFrom_write hr h3 (B2 ++ r)
    have hl : 0 < B1.length := by
      have := congrArg List.length h3
      rw [toI_len] at this
      have := rowBytes_pos w.row.vs
      omega
    obtain ⟨ws', i1, i2⟩ := wsS_write ws (fun q hq => h q (by simp [hq])) h2 r
    have hg : goneI w.gone = 0 ∨ goneI w.gone = 1 := by
      cases w.gone
      · exact .inl rfl
      · exact .inr rfl
    have hy : ¬ 1 < y.toNat := by omega
    have hgd : decide (y.toNat = 1) = w.gone := by
      cases hgo : w.gone
      · rw [hgo] at e2
        have : (y.toNat : Int) = 0 := e2
        exact decide_eq_false (by omega)
      · rw [hgo] at e2
        have : (y.toNat : Int) = 1 := e2
        exact decide_eq_true (by omega)
    refine ⟨⟨x.toNat, ⟨false, w.row.vs⟩, w.gone⟩ :: ws', ?_, ?_⟩
    · have e : (x :: y :: B1 ++ B2) ++ r = x :: y :: (B1 ++ (B2 ++ r)) := by simp
      rw [e]
      simp only [List.length_cons, wsS, if_neg hy, hf, if_neg (show ¬ B1.length = 0 by omega), List.drop_left, i1, wrOf, hgd, List.length_append, Option.some.injEq, Prod.mk.injEq, true_and]
      omega
    · simp only [List.map_cons, i2, wrU, e1]
theorem unF_app {b body : List UInt8} {n : Nat} (h : unF b = some (body, n)) (r : List UInt8) : unF (b ++ r) = some (body, n) := by
  obtain ⟨_, h2, _⟩ := unF_some h
  match b, h, h2 with
  | [], h, _ => cases h
  | [x], h, _ => cases h
  | x :: y :: q, h, h2 =>
    rw [List.cons_append, List.cons_append]
    rw [unF] at h ⊢
    generalize hN : 256 * x.toNat + y.toNat = N at h
    split at h
    · cases h
    rename_i h1
    split at h
    · rename_i h3
      simp only [Option.some.injEq, Prod.mk.injEq] at h
      obtain ⟨rfl, rfl⟩ := h
      have e1 : ¬ (q ++ r).length < N + 1 := by rw [List.length_append]; omega
      have e2 : (q ++ r).take N = q.take N := List.take_append_of_le_length (by omega)
      have e3 : (q ++ r).getD N 0 = q.getD N 0 := by rw [List.getD_eq_getElem?_getD, List.getD_eq_getElem?_getD, List.getElem?_append_left (by omega)]
      rw [if_neg e1, e2, e3, if_pos h3]
    · cases h
theorem eFrom_write {e : Ent} (h : logOk [e] = true) {B : List UInt8} (hB : toI B = frB (bodyB e)) (r : List UInt8) : ∃ e', eFrom (B ++ r) = (e', B.length) ∧ entU e' = entU e := by
  obtain ⟨o1, o2, o3⟩ := one_at h
  have hbl := body_len h
  have hB' : toI B = ((bodyB e).length : Int) / 256 :: ((bodyB e).length : Int) % 256 :: (bodyB e ++ [sumB (bodyB e)]) := hB
  obtain ⟨x, B', rfl, e1, h3⟩ := toI_uncons hB'
  obtain ⟨y, B', rfl, e2, h3⟩ := toI_uncons h3
  obtain ⟨B1, B2, rfl, h4, h5⟩ := toI_split h3
  obtain ⟨s, B2, rfl, e3, h5⟩ := toI_uncons h5
  obtain rfl := toI_none h5
  have hl1 : B1.length = (bodyB e).length := by rw [← h4, toI_len]
  have hu : unF (x :: y :: (B1 ++ [s])) = some (B1, B1.length + 3) := by
    have hN : 256 * x.toNat + y.toNat = B1.length := by omega
    rw [unF, hN]
    have g1 : ¬ (B1 ++ [s]).length < B1.length + 1 := by simp
    have g3 : ((B1 ++ [s]).getD B1.length 0) = s := by rw [List.getD_eq_getElem?_getD, List.getElem?_append_right (Nat.le_refl _)]; simp
    rw [if_neg g1, List.take_left, g3, sumC, h4, e3, if_pos rfl]
  have hu2 := unF_app hu r
  rw [bodyB_eq] at h4
  obtain ⟨t, B1, rfl, e4, h4⟩ := toI_uncons h4
  obtain ⟨m, B1, rfl, e5, h4⟩ := toI_uncons h4
  obtain ⟨ws', w1, w2⟩ := wsS_write e.ws o2 h4 []
  rw [List.append_nil] at w1
  have hm : m.toNat = e.ws.length := by omega
  have heU : entU ⟨t.toNat, ws'.isEmpty, ws'⟩ = entU e := by simp only [entU, w2, e4]
  have hok : logOk [⟨t.toNat, ws'.isEmpty, ws'⟩] = true := by
    rw [logOk_vs (b := [e]) (by simp only [List.map_cons, List.map_nil, heU])]
    exact h
  have hrd : readS (t :: m :: B1) = some ⟨t.toNat, ws'.isEmpty, ws'⟩ := by
    simp only [readS, hm, w1]
    rw [if_pos ⟨trivial, hok⟩]
  refine ⟨⟨t.toNat, ws'.isEmpty, ws'⟩, ?_, heU⟩
  unfold eFrom
  rw [hu2]
  simp only
  rw [hrd]
  simp
end Go.Proofs.Yteaojpfofifmnaa.PE
/- Logs that are the same. -/
set_option linter.unusedSimpArgs false
set_option linter.unusedVariables false
set_option maxHeartbeats 4000000
set_option maxRecDepth 20000
namespace Go.Proofs.Yteaojpfofifmnaa.PE
open Go.RowKit

theorem wrU_parts {a b : Wr} (h : wrU a = wrU b) : b.key = a.key ∧ b.row.vs = a.row.vs ∧ b.gone = a.gone := by
  simp only [wrU, List.cons.injEq, U.int.injEq, U.sub.injEq, U.bool.injEq, and_true] at h
  obtain ⟨h1, h2, h3⟩ := h
  exact ⟨h1.symm, (by simpa using (map_same (g := id) (fun _ _ => valU_inj) h2).symm), h3.symm⟩
theorem entU_parts {a b : Ent} (h : entU a = entU b) : b.time = a.time ∧ a.ws.map wrU = b.ws.map wrU := by
  simp only [entU, List.cons.injEq, U.int.injEq, U.sub.injEq, and_true] at h
  exact ⟨h.1.symm, h.2⟩
theorem zip_at {α β : Type} {f : α → β} {a b : List α} (h : a.map f = b.map f) {i : Nat} {x : α × α} (h1 : a[i]? = some x.1) (h2 : b[i]? = some x.2) : f x.1 = f x.2 := by
  have h3 : (a.map f)[i]? = some (f x.1) := by simp [h1]
  have h4 : (b.map f)[i]? = some (f x.2) := by simp [h2]
  rw [h, h4] at h3
  exact (Option.some.inj h3).symm
theorem all_yes {α : Type} (l : List α) : l.all (fun _ => true) = true := by simp
theorem loop_sameWs (d : Nat) (c c' : Bool) (a b : List Wr) (hs : a.length < 1099511627776) (hsa : ∀ w ∈ a, w.row.vs.length < 1099511627776) (he : a.map wrU = b.map wrU) (hlen : a.length = b.length) (K : Nat) (hK : (a.zip b).length ≤ K) : LoopS (runD tab noExt (d + 1)) (drawI (runD tab noExt (d + 1))) [0, 1, 5] [4] L78x0 ([] : Heap).length K [(0, .sl c 3 (a.map Wr.cells)), (1, .sl c' 3 (b.map Wr.cells)), (5, .int .i64 0)] [] = if (a.zip b).all (fun _ => true) then (some (.exit 0, [(4, .undef)], []) : Out) else (some (.ret, [(4, .bool false)], []) : Out) := by
  have key := LoopS_all (run := (runD tab noExt (d + 1))) (draw := drawI (runD tab noExt (d + 1))) (live := [0, 1, 5]) (out := [4]) (c := L78x0) (n0 := ([] : Heap).length) (a.zip b) (fun _ => true) (fun (i : Nat) => [(0, .sl c 3 (a.map Wr.cells)), (1, .sl c' 3 (b.map Wr.cells)), (5, .int .i64 i)]) [] (some (.exit 0, [(4, .undef)], []) : Out) (some (.ret, [(4, .bool false)], []) : Out) (fun K => ?_) (fun (i : Nat) (x : Wr × Wr) K hi hx => ?_) K hK
  · simp only [Int.natCast_zero] at key
    exact key
  · rw [LoopS_eq]
    simp -implicitDefEqProofs only [go_sem, Nat.reduceBEq, Nat.reduceAdd, Nat.reduceSub, Nat.reduceMul, Nat.reduceLeDiff, Nat.reduceEqDiff, Nat.reduceLT, Int.reduceNeg, Int.reduceAdd, Int.reduceSub, Int.reduceMul, Int.reduceLE, Int.reduceLT, Int.reduceEq, Int.reduceToNat, reduceCtorEq, evL78x0, B78x0, Int.lt_irrefl, List.length_zip, hlen, Nat.min_self, evC_draw, evD78x0, E78x0, Wr.cells, Row.v]
  · obtain ⟨g1, g2⟩ := List.getElem?_zip_eq_some.1 hx; rw [List.length_zip, hlen, Nat.min_self] at hi; obtain ⟨e1, e2, e3⟩ := wrU_parts (zip_at he g1 g2); have hss := run_sameRow d x.1.row.clip x.2.row.clip x.1.row.vs x.2.row.vs (hsa _ (List.mem_of_getElem? g1)); rw [e2] at hss; clear he
    rw [LoopS_eq]
    simp -implicitDefEqProofs (disch := omega) only [go_sem, Nat.reduceBEq, Nat.reduceAdd, Nat.reduceSub, Nat.reduceMul, Nat.reduceLeDiff, Nat.reduceEqDiff, Nat.reduceLT, Int.reduceNeg, Int.reduceAdd, Int.reduceSub, Int.reduceMul, Int.reduceLE, Int.reduceLT, Int.reduceEq, Int.reduceToNat, reduceCtorEq, evL78x0, B78x0, hi, hx, IntWalk.i64_in, List.length_zip, hlen, Nat.min_self, evC_draw, evD78x0, E78x0, Wr.cells, Row.v, *]
    repeat' ((first | rw [GuardI_ndec] | rw [CondC_ndec] | rw [GuardQ_ndec] | rw [GuardI_dec] | rw [CondC_dec] | rw [GuardQ_dec] | rw [GuardI_nby] | rw [CondC_nby] | rw [GuardQ_nby] | rw [GuardQ_by] | rw [GuardI_by] | rw [CondC_by]) <;> split <;> simp -implicitDefEqProofs (disch := omega) only [go_sem, Nat.reduceBEq, Nat.reduceAdd, Nat.reduceSub, Nat.reduceMul, Nat.reduceLeDiff, Nat.reduceEqDiff, Nat.reduceLT, Int.reduceNeg, Int.reduceAdd, Int.reduceSub, Int.reduceMul, Int.reduceLE, Int.reduceLT, Int.reduceEq, Int.reduceToNat, reduceCtorEq, hi, hx, IntWalk.i64_in, List.length_zip, hlen, Nat.min_self, evC_draw, evD78x0, E78x0, Wr.cells, Row.v, *, *])
    all_goals first | rfl | (simp_all []; done) | (simp_all []; omega)
-- find78
theorem run_sameWs (d : Nat) (c c' : Bool) (a b : List Wr) (hs : a.length < 1099511627776) (hsa : ∀ w ∈ a, w.row.vs.length < 1099511627776) (he : a.map wrU = b.map wrU) : retP (runD tab noExt (d + 2)) 78 [.sl c 3 (a.map Wr.cells), .sl c' 3 (b.map Wr.cells)] = some [.bool true] := by
  have hlen : a.length = b.length := by simpa using congrArg List.length he
  have hl := loop_sameWs d c c' a b hs hsa he hlen 1099511627775 (by simp; omega)
  rw [if_pos (all_yes _)] at hl
  rw [retP, runD_eq find78 _ _ _ (by simp)]
  simp -implicitDefEqProofs only [go_sem, Nat.reduceBEq, Nat.reduceAdd, Nat.reduceSub, Nat.reduceMul, Nat.reduceLeDiff, Nat.reduceEqDiff, Nat.reduceLT, Int.reduceNeg, Int.reduceAdd, Int.reduceSub, Int.reduceMul, Int.reduceLE, Int.reduceLT, Int.reduceEq, Int.reduceToNat, reduceCtorEq, hlen] at hl ⊢
  rw [hl]
  simp -implicitDefEqProofs only [go_sem, Nat.reduceBEq, Nat.reduceAdd, Nat.reduceSub, Nat.reduceMul, Nat.reduceLeDiff, Nat.reduceEqDiff, Nat.reduceLT, Int.reduceNeg, Int.reduceAdd, Int.reduceSub, Int.reduceMul, Int.reduceLE, Int.reduceLT, Int.reduceEq, Int.reduceToNat, reduceCtorEq]
theorem loop_sameLog (d : Nat) (c c' : Bool) (a b : List Ent) (hs : a.length < 1099511627776) (hsa : LimE a) (he : a.map entU = b.map entU) (hlen : a.length = b.length) (K : Nat) (hK : (a.zip b).length ≤ K) : LoopS (runD tab noExt (d + 2)) (drawI (runD tab noExt (d + 2))) [0, 1, 5] [4] L28x0 ([] : Heap).length K [(0, .sl c 2 (a.map Ent.cells)), (1, .sl c' 2 (b.map Ent.cells)), (5, .int .i64 0)] [] = if (a.zip b).all (fun _ => true) then (some (.exit 0, [(4, .undef)], []) : Out) else (some (.ret, [(4, .bool false)], []) : Out) := by
  have key := LoopS_all (run := (runD tab noExt (d + 2))) (draw := drawI (runD tab noExt (d + 2))) (live := [0, 1, 5]) (out := [4]) (c := L28x0) (n0 := ([] : Heap).length) (a.zip b) (fun _ => true) (fun (i : Nat) => [(0, .sl c 2 (a.map Ent.cells)), (1, .sl c' 2 (b.map Ent.cells)), (5, .int .i64 i)]) [] (some (.exit 0, [(4, .undef)], []) : Out) (some (.ret, [(4, .bool false)], []) : Out) (fun K => ?_) (fun (i : Nat) (x : Ent × Ent) K hi hx => ?_) K hK
  · simp only [Int.natCast_zero] at key
    exact key
  · rw [LoopS_eq]
    simp -implicitDefEqProofs only [go_sem, Nat.reduceBEq, Nat.reduceAdd, Nat.reduceSub, Nat.reduceMul, Nat.reduceLeDiff, Nat.reduceEqDiff, Nat.reduceLT, Int.reduceNeg, Int.reduceAdd, Int.reduceSub, Int.reduceMul, Int.reduceLE, Int.reduceLT, Int.reduceEq, Int.reduceToNat, reduceCtorEq, evL28x0, B28x0, Int.lt_irrefl, List.length_zip, hlen, Nat.min_self, evC_draw, evD28x0, E28x0, Ent.cells, Ent.v]
  · obtain ⟨g1, g2⟩ := List.getElem?_zip_eq_some.1 hx; rw [List.length_zip, hlen, Nat.min_self] at hi; obtain ⟨e1, e2⟩ := entU_parts (zip_at he g1 g2); have hl2 := hsa.2 _ (List.mem_of_getElem? g1); have hss := run_sameWs d x.1.wc x.2.wc x.1.ws x.2.ws (by omega) (fun w hw => by have := (hl2.2 w hw).1; omega) e2; clear he e2 hl2
    rw [LoopS_eq]
    simp -implicitDefEqProofs (disch := omega) only [go_sem, Nat.reduceBEq, Nat.reduceAdd, Nat.reduceSub, Nat.reduceMul, Nat.reduceLeDiff, Nat.reduceEqDiff, Nat.reduceLT, Int.reduceNeg, Int.reduceAdd, Int.reduceSub, Int.reduceMul, Int.reduceLE, Int.reduceLT, Int.reduceEq, Int.reduceToNat, reduceCtorEq, evL28x0, B28x0, hi, hx, IntWalk.i64_in, List.length_zip, hlen, Nat.min_self, evC_draw, evD28x0, E28x0, Ent.cells, Ent.v, *]
    repeat' ((first | rw [GuardI_ndec] | rw [CondC_ndec] | rw [GuardQ_ndec] | rw [GuardI_dec] | rw [CondC_dec] | rw [GuardQ_dec] | rw [GuardI_nby] | rw [CondC_nby] | rw [GuardQ_nby] | rw [GuardQ_by] | rw [GuardI_by] | rw [CondC_by]) <;> split <;> simp -implicitDefEqProofs (disch := omega) only [go_sem, Nat.reduceBEq, Nat.reduceAdd, Nat.reduceSub, Nat.reduceMul, Nat.reduceLeDiff, Nat.reduceEqDiff, Nat.reduceLT, Int.reduceNeg, Int.reduceAdd, Int.reduceSub, Int.reduceMul, Int.reduceLE, Int.reduceLT, Int.reduceEq, Int.reduceToNat, reduceCtorEq, hi, hx, IntWalk.i64_in, List.length_zip, hlen, Nat.min_self, evC_draw, evD28x0, E28x0, Ent.cells, Ent.v, *, *])
    all_goals first | rfl | (simp_all []; done) | (simp_all []; omega)
-- find28
theorem run_sameLog (d : Nat) (c c' : Bool) (a b : List Ent) (hsa : LimE a) (he : a.map entU = b.map entU) : retP (runD tab noExt (d + 3)) 28 [.sl c 2 (a.map Ent.cells), .sl c' 2 (b.map Ent.cells)] = some [.bool true] := by
  have hlen : a.length = b.length := by simpa using congrArg List.length he
  have hs := hsa.1
  have hl := loop_sameLog d c c' a b (by omega) hsa he hlen 1099511627775 (by simp; omega)
  rw [if_pos (all_yes _)] at hl
  rw [retP, runD_eq find28 _ _ _ (by simp)]
  simp -implicitDefEqProofs only [go_sem, Nat.reduceBEq, Nat.reduceAdd, Nat.reduceSub, Nat.reduceMul, Nat.reduceLeDiff, Nat.reduceEqDiff, Nat.reduceLT, Int.reduceNeg, Int.reduceAdd, Int.reduceSub, Int.reduceMul, Int.reduceLE, Int.reduceLT, Int.reduceEq, Int.reduceToNat, reduceCtorEq, hlen] at hl ⊢
  rw [hl]
  simp -implicitDefEqProofs only [go_sem, Nat.reduceBEq, Nat.reduceAdd, Nat.reduceSub, Nat.reduceMul, Nat.reduceLeDiff, Nat.reduceEqDiff, Nat.reduceLT, Int.reduceNeg, Int.reduceAdd, Int.reduceSub, Int.reduceMul, Int.reduceLE, Int.reduceLT, Int.reduceEq, Int.reduceToNat, reduceCtorEq]
end Go.Proofs.Yteaojpfofifmnaa.PE
/- Bytes are read in one way. -/
set_option linter.unusedSimpArgs false
set_option linter.unusedVariables false
set_option maxHeartbeats 8000000
set_option maxRecDepth 20000
namespace Go.Proofs.Yteaojpfofifmnaa.PE
open Go.RowKit

theorem cob_same {l : List Int} {p : List UInt8} (h : l = toI p) : u8s l = cellsOfBytes p := by rw [h, cob_u8s]
theorem bytes_of {l : List Int} {q : V} (k : PurF (.sub fdByte) q (.sub (byU l))) : ∃ c, q = .sl c 1 (u8s l) := by
  obtain ⟨c, ct, rfl, hz⟩ := purS_Byte k
  obtain ⟨xs, rfl, h2⟩ := typ_of (f := fun n : Int => [V.int .u8 n]) (g := fun n : Int => [U.int n]) (fun c x hr => by
    obtain ⟨a, rfl, rfl⟩ := purR_Byte hr
    exact ⟨a, rfl, rfl⟩) hz
  have : l = xs := by
    have h3 : l.map (fun n : Int => [U.int n]) = xs.map (fun n : Int => [U.int n]) := h2
    refine (List.map_inj_right (fun x y hxy => ?_)).1 h3
    simpa using hxy
  exact ⟨c, by rw [this]; rfl⟩
theorem run_EntryBytesI (d : Nat) (e : Ent) (h1 : LimE [e]) : ∃ cb, retP (runD tab noExt (d + 10)) 18 [.agg e.cells] = some [.sl cb 1 (u8s (entBytes e))] := by
  obtain ⟨v, hc, ids, r, o, _⟩ := own_EntryBytes d e h1
  obtain ⟨q, e, g⟩ := retP_own r o (by decide)
  obtain ⟨cb, rfl⟩ := bytes_of g
  exact ⟨cb, e⟩
theorem run_eFromI (d : Nat) (c : Bool) (b : List UInt8) (hb : b.length < 1099511627776) : ∃ e : Ent, retP (runD tab noExt (d + 11)) 27 [.sl c 1 (cellsOfBytes b)] = some [.agg e.cells, .int .i64 (eFrom b).2] ∧ entU e = entU (eFrom b).1 := by
  obtain ⟨v, hc, ids, r, o, _⟩ := own_eFrom d c b hb
  obtain ⟨q, e1, e2⟩ := OwnF_pure (.sub fdWrite) 6 (by decide) o
  have e3 := pureDA_of o e1
  obtain ⟨cl, ws, rfl, h⟩ := wrs_each e2
  refine ⟨⟨(eFrom b).1.time, cl, ws⟩, ?_, by simp only [entU, h]⟩
  unfold retP
  rw [r, PureR_some]
  have hA : pureAs hc [.agg [.int .i64 (eFrom b).1.time, v], .int .i64 (eFrom b).2] = none ∨ pureAs hc [.agg [.int .i64 (eFrom b).1.time, v], .int .i64 (eFrom b).2] = some [.agg [.int .i64 (eFrom b).1.time, .sl cl 3 (ws.map Wr.cells)], .int .i64 (eFrom b).2] := by
    simp only [OwnF] at o
    obtain ⟨xs, e4, ⟨c, rfl, _⟩ | ⟨id, st, clip, cont, r, rfl, hb, _⟩⟩ := o
    · right
      simp only [pureD, Option.some.injEq] at e1
      simp only [pureAs, pureA, pures, pureC, Option.map_some, e1]
    · left
      have hd : fdWrite.any Fd.deep = true := rfl
      simp only [blkOf, hd, if_true] at hb
      simp only [pureAs, pureA, pures, pureC, hb, Option.map_none]
  rcases hA with hA | hA
  · rw [hA, OrD_none]
    simp only [pureDAs, mapO, pureDA_agg, pureDA_int, pureD_intv, e1, Option.map_some, Ent.cells, Ent.v]
  · rw [hA, OrD_some]
    rfl
-- find35
end Go.Proofs.Yteaojpfofifmnaa.PE
/- The law of an entry's bytes. -/
set_option linter.unusedSimpArgs false
set_option linter.unusedVariables false
set_option maxHeartbeats 8000000
set_option maxRecDepth 20000
namespace Go.Proofs.Yteaojpfofifmnaa.PE
open Go.RowKit

theorem bytes_ex : ∀ (l : List Int), (∀ x ∈ l, 0 ≤ x ∧ x < 256) → ∃ B : List UInt8, toI B = l
  | [], _ => ⟨[], rfl⟩
  | x :: l, h => by
    obtain ⟨B, hB⟩ := bytes_ex l (fun y hy => h y (by simp [hy]))
    have hx := h x (by simp)
    refine ⟨UInt8.ofNat x.toNat :: B, ?_⟩
    have : ((UInt8.ofNat x.toNat).toNat : Int) = x := by simp; omega
    rw [toI_cons, hB, this]
theorem sumF_in (p : Int × Nat) (x : Int) (hp : 0 ≤ p.1 ∧ p.1 < 251) (hx : 0 ≤ x) : 0 ≤ (sumF p x).1 ∧ (sumF p x).1 < 251 := by
  have hm : 0 ≤ x * ((p.2 : Int) + 1) := Int.mul_nonneg hx (by omega)
  exact ⟨tmod_nn (show 0 ≤ p.1 + x * ((p.2 : Int) + 1) by omega) (show (0 : Int) < 251 by omega), tmod_lt (show 0 ≤ p.1 + x * ((p.2 : Int) + 1) by omega) (show (0 : Int) < 251 by omega)⟩
theorem sumB_in (l : List Int) (h : ∀ x ∈ l, 0 ≤ x ∧ x < 256) : 0 ≤ sumB l ∧ sumB l < 256 := by
  have key : ∀ (l : List Int) (p : Int × Nat), (∀ x ∈ l, 0 ≤ x ∧ x < 256) → 0 ≤ p.1 ∧ p.1 < 251 → 0 ≤ (l.foldl sumF p).1 ∧ (l.foldl sumF p).1 < 251 := by
    intro l
    induction l with
    | nil => intro p _ hp; exact hp
    | cons x l ih =>
      intro p h hp
      exact ih _ (fun y hy => h y (by simp [hy])) (sumF_in p x hp (h x (by simp)).1)
  have := key l (0, 0) h ⟨by decide, by decide⟩
  unfold sumB
  omega
theorem fr_ex {e : Ent} (h : logOk [e] = true) : ∃ B : List UInt8, toI B = frB (bodyB e) := by
  refine bytes_ex _ (fun x hx => ?_)
  have hb := body_len h
  have hi := in_body h
  simp only [frB, List.mem_cons, List.mem_append, List.not_mem_nil, or_false] at hx
  rcases hx with rfl | rfl | hx | rfl
  · omega
  · omega
  · exact hi x hx
  · exact sumB_in _ hi
theorem ent_ex (e : Ent) : ∃ B : List UInt8, toI B = entBytes e := by
  unfold entBytes
  split
  · rename_i h; exact fr_ex h
  · exact ⟨[], rfl⟩
-- find4
theorem law_EntryBytes (b : List UInt8) (hl : b.length ≤ maxLen) : ∃ d h1, runD tab noExt d 4 [.sl false 1 (cellsOfBytes b)] [] = some ([.bool true], h1) := by
  refine ⟨61, ?_⟩
  rw [runD_eq find4 _ _ _ (by simp)]
  have ha := run_alive 55
  by_cases h0 : (1048576 : Int) < b.length
  · simp -implicitDefEqProofs (disch := omega) only [go_sem, Nat.reduceBEq, Nat.reduceAdd, Nat.reduceSub, Nat.reduceMul, Nat.reduceLeDiff, Nat.reduceEqDiff, Nat.reduceLT, Int.reduceNeg, Int.reduceAdd, Int.reduceSub, Int.reduceMul, Int.reduceLE, Int.reduceLT, Int.reduceEq, Int.reduceToNat, reduceCtorEq, cob_len, h0]
    exact ⟨_, rfl⟩
  obtain ⟨e, eD, lim⟩ := run_drawEntry 50 false b
  obtain ⟨cb, eI⟩ := run_EntryBytesI 50 e lim
  have eS := run_EntryBytesS 54 e lim
  obtain ⟨B, hB⟩ := ent_ex e
  obtain ⟨_, l2, l3⟩ := lim.fine
  have eL := run_logI 51 true [e] l3 l2
  have hlen := entBytes_len e
  rw [cob_same hB.symm] at eI eS
  have hBl : B.length = (entBytes e).length := by rw [← hB, toI_len]
  simp only [List.map_cons, List.map_nil] at eL
  simp only [Ent.cells, Ent.v] at eD eI eS eL
  cases ho : logOk [e]
  · have hB0 : B = [] := toI_none (by rw [hB, entBytes, ho]; rfl)
    subst hB0
    rw [ho] at eL
    simp only [cob_nil] at eI eS
    simp -implicitDefEqProofs (disch := omega) only [go_sem, Nat.reduceBEq, Nat.reduceAdd, Nat.reduceSub, Nat.reduceMul, Nat.reduceLeDiff, Nat.reduceEqDiff, Nat.reduceLT, Int.reduceNeg, Int.reduceAdd, Int.reduceSub, Int.reduceMul, Int.reduceLE, Int.reduceLT, Int.reduceEq, Int.reduceToNat, reduceCtorEq, evC_draw, evD4x0, E4x0, cob_len, h0, ha, eD, eI, eS, eL, bytesOf, elemsOf, elemOf, frzs, frz1, List.set_cons_zero, List.set_cons_succ, refs, refC, refsV]
    exact ⟨_, rfl⟩
  · have hB1 : toI B = frB (bodyB e) := by rw [hB, entBytes, if_pos ho]
    have hpos : 0 < B.length := by
      have := (fr_len ho).1
      rw [← hB1, toI_len] at this
      exact this
    have hz : ((B.length : Int) = 0) = False := eq_false (by omega)
    obtain ⟨e', w1, w2⟩ := eFrom_write ho hB1 [0, 4, 9]
    obtain ⟨e2, eF, hE2⟩ := run_eFromI 49 false (B ++ [0, 4, 9]) (by simp; omega)
    rw [w1] at eF hE2
    simp only at hE2
    have hU : entU e2 = entU e := hE2.trans w2
    have limE2 : LimE [e2] := ents_lim (by
      have := ents_len lim
      simp only [List.map_cons, List.map_nil, ← hU] at this ⊢
      exact this)
    have q := run_sameLog 57 true true [e2] [e] limE2 (by simp only [List.map_cons, List.map_nil, hU])
    have hc : cellsOfBytes (B ++ [0, 4, 9]) = cellsOfBytes B ++ [[.int .u8 0], [.int .u8 4], [.int .u8 9]] := by simp [cellsOfBytes]
    rw [hc] at eF
    have ht : List.take (B.length + 3) (cellsOfBytes B ++ [[V.int .u8 0], [.int .u8 4], [.int .u8 9]]) = cellsOfBytes B ++ [[.int .u8 0], [.int .u8 4], [.int .u8 9]] := List.take_of_length_le (by simp [cob_len])
    have sm1 : B.length < 4294967296 := by omega
    have sm2 : B.length + 3 < 4294967296 := by omega
    simp only [List.map_cons, List.map_nil, Ent.cells, Ent.v] at eF q
    simp -implicitDefEqProofs (disch := omega) only [go_sem, Nat.reduceBEq, Nat.reduceAdd, Nat.reduceSub, Nat.reduceMul, Nat.reduceLeDiff, Nat.reduceEqDiff, Nat.reduceLT, Int.reduceNeg, Int.reduceAdd, Int.reduceSub, Int.reduceMul, Int.reduceLE, Int.reduceLT, Int.reduceEq, Int.reduceToNat, reduceCtorEq, evC_draw, evD4x0, E4x0, cob_len, h0, ha, eD, eI, eS, eL, eF, q, hz, ht, sm1, sm2, bytesOf_cob, elemsOf, elemOf, frzs, frz1, List.set_cons_zero, List.set_cons_succ, refs, refC, refsV, Ent.cells, Ent.v]
    exact ⟨_, rfl⟩
end Go.Proofs.Yteaojpfofifmnaa.PE
