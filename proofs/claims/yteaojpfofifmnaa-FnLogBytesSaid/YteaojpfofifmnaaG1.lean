/- Texts of this claim, one behind the other: Pb8, Pfe, Pff, Pfg, Pfh, Pr0, Pr5, Prb, Pfi, Pfk, Pfl, Pfm, Pg0, Pg4, Pg8, Pd1, Pv4, Pv7, Pv8, Pv9, Pg5, Pr1, Pg6, Pg1, Pg2, Pg7, Pg9. -/
import Derived.Test.YteaojpfofifmnaaG0
import Derived.Test.YteaojpfofifmnaaPeX
import Derived.Deep.Slices
import Derived.ChangeArms
/- Bytes of logs: both functions tell them. -/
set_option linter.unusedSimpArgs false
set_option linter.unusedVariables false
set_option maxHeartbeats 8000000
set_option maxRecDepth 20000
namespace Go.Proofs.Yteaojpfofifmnaa.PE
open Go.RowKit

theorem clipkByt (d : Nat) (l : List (List V)) (n : Nat) (hn : n = l.length) : callX (runD tab noExt (d + 1)) [.rows 0 1 l] 2 85 [.ref 0 0 0 n false] = some (.ref 0 0 0 n true, [.rows 0 1 l]) := by
  subst hn
  simp only [callX, callK]
  rw [runD_eq find85 _ _ _ (by simp)]
  simp -implicitDefEqProofs (disch := omega) only [go_sem, Nat.reduceBEq, Nat.reduceAdd, Nat.reduceSub, Nat.reduceMul, Nat.reduceLeDiff, Nat.reduceEqDiff, Nat.reduceLT, Int.reduceNeg, Int.reduceAdd, Int.reduceSub, Int.reduceMul, Int.reduceLE, Int.reduceLT, Int.reduceEq, Int.reduceToNat, reduceCtorEq, List.take_length, Bool.true_or, resOk]
theorem runcByt (d : Nat) (c : Bool) (l : List (List V)) (h0 : 0 < l.length) (hl : l.length < 4294967296) : runD tab noExt (d + 2) 80 [.sl c 1 l] [] = some ([.ref 0 0 0 l.length true], [.rows 0 1 l]) := by
  rw [runD_eq find80 _ _ _ (by simp)]
  match l, h0, hl with
  | [], h0, _ => exact absurd h0 (by decide)
  | x :: r, _, hl =>
    have h0 : ((r.length : Int) + 1 = 0) = False := eq_false (by omega)
    have h1 : r.length + 1 < 4294967296 := by simpa using hl
    have hc := clipkByt d (x :: r) (r.length + 1) (by simp)
    simp -implicitDefEqProofs (disch := omega) only [go_sem, Nat.reduceBEq, Nat.reduceAdd, Nat.reduceSub, Nat.reduceMul, Nat.reduceLeDiff, Nat.reduceEqDiff, Nat.reduceLT, Int.reduceNeg, Int.reduceAdd, Int.reduceSub, Int.reduceMul, Int.reduceLE, Int.reduceLT, Int.reduceEq, Int.reduceToNat, reduceCtorEq, List.length_cons, h0, h1, hc]
theorem runnByt (d : Nat) (c : Bool) : runD tab noExt (d + 2) 80 [.sl c 1 []] [] = some ([.sl true 1 []], []) := by
  rw [runD_eq find80 _ _ _ (by simp)]
  simp -implicitDefEqProofs (disch := omega) only [go_sem, Nat.reduceBEq, Nat.reduceAdd, Nat.reduceSub, Nat.reduceMul, Nat.reduceLeDiff, Nat.reduceEqDiff, Nat.reduceLT, Int.reduceNeg, Int.reduceAdd, Int.reduceSub, Int.reduceMul, Int.reduceLE, Int.reduceLT, Int.reduceEq, Int.reduceToNat, reduceCtorEq]
theorem own_cloneByt (d : Nat) (c : Bool) (l : List Int) (hl : l.length < 4294967296) : ∃ v hc ids, runD tab noExt (d + 2) 80 [.sl c 1 (u8s l)] [] = some ([v], hc) ∧ OwnF hc (.sub fdByte) v (.sub (byU l)) ids ∧ ids.Nodup := by
  match l, hl with
  | [], _ => exact ⟨_, _, [], runnByt d c, own_nil rfl, List.nodup_nil⟩
  | x :: r, hl => exact ⟨_, _, [0], runcByt d c (u8s (x :: r)) (by simp [u8s]) (by rw [u8s_len]; exact hl), own_bytes (x :: r) (by rw [u8s_len]) rfl, by simp⟩
theorem zip_bytes {h : Heap} : ∀ {cont : List (List V)} {l : List Int} {r : List Nat}, Zip3 (OwnR h fdByte) cont (byU l) r → cont = u8s l
  | [], [], _, _ => rfl
  | [], _ :: _, _, h => (h : False).elim
  | _ :: _, [], _, h => (h : False).elim
  | c :: cs, x :: l, r, h => by
    obtain ⟨i, j, rfl, h1, h2⟩ := h
    obtain ⟨a, rfl, h3, rfl⟩ := ownR_Byte h1
    injection h3 with h3
    injection h3 with h3
    subst h3
    rw [u8s_cons, zip_bytes h2]
theorem ent_call (d : Nat) (h : Heap) (e : Ent) (ho : logOk [e] = true) : ∃ id st clip t, callX (runD tab noExt (d + 9)) h 0 67 [.agg [.int .i64 e.time, .sl e.wc 3 (e.ws.map Wr.cells)]] = some (.ref id st 0 (frB (bodyB e)).length clip, h ++ t) ∧ (h ++ t)[id]? = some (.rows st 1 (u8s (frB (bodyB e)))) := by
  obtain ⟨v, hc, ids, q1, q2, q3⟩ := own_entryBytes d e ho
  have q1' : runD tab noExt (d + 9) 67 [.agg [.int .i64 e.time, .sl e.wc 3 (e.ws.map Wr.cells)]] [] = some ([v], hc) := q1
  obtain ⟨w, hw, js, k1, k2, k3, k4, k5, k6⟩ := own_call (h := h) (args := [.agg [.int .i64 e.time, .sl e.wc 3 (e.ws.map Wr.cells)]]) (by simp only [pureDAs, mapO, pureDA, pureD, deepest, Option.map_some]) q1' q2 q3
  have ht : hw = h ++ hw.drop h.length := by
    have : hw.take h.length = h := by
      apply List.ext_getElem?
      intro j
      rcases Nat.lt_or_ge j h.length with hj | hj
      · rw [List.getElem?_take_of_lt hj, k5 j hj]
      · rw [List.getElem?_eq_none hj, List.getElem?_eq_none (by simp; omega)]
    conv => lhs; rw [← List.take_append_drop h.length hw, this]
  simp only [OwnF] at k2
  obtain ⟨xs, e1, h2⟩ := k2
  injection e1 with e1
  subst e1
  rcases h2 with ⟨c, _, e2, _⟩ | ⟨id, st, clip, cont, r, rfl, hb, _, hz⟩
  · simp [byU, frB] at e2
  · have := zip_bytes hz
    subst this
    rw [u8s_len] at k1
    refine ⟨id, st, clip, hw.drop h.length, by rw [k1, ← ht], ?_⟩
    rw [← ht, hb]
    rfl
def entF (b : List Int) (e : Ent) : List Int := b ++ frB (bodyB e)
def logBytes (l : List Ent) : List Int := if logOk l then l.foldl entF [] else []
theorem log_one {l : List Ent} (h : logOk l = true) : ∀ e ∈ l, logOk [e] = true := by
  intro e he
  have := (logOk_iff l).1 h
  exact (logOk_iff [e]).2 ⟨fun x hx => by rw [List.mem_singleton.1 hx]; exact this.1 e he, by simp, by simp⟩
theorem fr_len {e : Ent} (h : logOk [e] = true) : 0 < (frB (bodyB e)).length ∧ (frB (bodyB e)).length ≤ 180 := by
  have := body_len h
  rw [frB_len]
  omega
theorem loop_lbI (d : Nat) (c : Bool) (l : List Ent) (hl : l.length ≤ 12) (hok : ∀ e ∈ l, logOk [e] = true) (K : Nat) (hK : (l).length ≤ K) (b0 : List Int) (hb0 : (fun (i : Nat) (b : List Int) => b.length ≤ 180 * i) 0 b0) : LoopS (runD tab noExt (d + 9)) (drawI (runD tab noExt (d + 9))) [3, 9, 10, 11] [3] L30x0 ([.rows (b0).length 1 (u8s (b0))] : Heap).length K [(3, .ref 0 (b0).length 0 (b0).length false), (9, .sl c 2 (l.map Ent.cells)), (10, .int .i64 l.length), (11, .int .i64 (0 : Nat))] [.rows (b0).length 1 (u8s (b0))] = (some (.exit 0, [(3, .ref 0 (((l).foldl (entF) b0)).length 0 (((l).foldl (entF) b0)).length false)], [.rows (((l).foldl (entF) b0)).length 1 (u8s (((l).foldl (entF) b0)))]) : Out) ∧ (fun (i : Nat) (b : List Int) => b.length ≤ 180 * i) (l).length ((l).foldl (entF) b0) := by
  have key := LoopS_foldI (run := (runD tab noExt (d + 9))) (draw := drawI (runD tab noExt (d + 9))) (live := [3, 9, 10, 11]) (out := [3]) (c := L30x0) (n0 := ([.rows (b0).length 1 (u8s (b0))] : Heap).length) (l) (entF) (fun (i : Nat) (b : List Int) => b.length ≤ 180 * i) (fun (i : Nat) (b : List Int) => [(3, .ref 0 (b).length 0 (b).length false), (9, .sl c 2 (l.map Ent.cells)), (10, .int .i64 l.length), (11, .int .i64 (i : Nat))]) (fun (i : Nat) (b : List Int) => [.rows (b).length 1 (u8s (b))]) (fun b => (some (.exit 0, [(3, .ref 0 (b).length 0 (b).length false)], [.rows (b).length 1 (u8s (b))]) : Out)) (fun b K hb => ?_) (fun (i : Nat) (x : Ent) b K hi hx hb => ?_) K hK b0 hb0
  · simp only [Int.natCast_zero] at key
    exact key
  · rw [LoopS_eq]
    simp -implicitDefEqProofs only [go_sem, Nat.reduceBEq, Nat.reduceAdd, Nat.reduceSub, Nat.reduceMul, Nat.reduceLeDiff, Nat.reduceEqDiff, Nat.reduceLT, Int.reduceNeg, Int.reduceAdd, Int.reduceSub, Int.reduceMul, Int.reduceLE, Int.reduceLT, Int.reduceEq, Int.reduceToNat, reduceCtorEq, evL30x0, B30x0, Int.lt_irrefl]
  · have hxo := hok x (List.mem_of_getElem? hx); have hxl := fr_len hxo; have sm1 : b.length + (frB (bodyB x)).length < 4294967296 := (by have := hb; omega); have hel : List.take (frB (bodyB x)).length (u8s (frB (bodyB x))) = u8s (frB (bodyB x)) := (List.take_of_length_le (by rw [u8s_len]; omega)); obtain ⟨id, st, clip, t, k1, k2⟩ := ent_call d [.rows b.length 1 (u8s b), .box [.int .i64 x.time, .sl x.wc 3 (x.ws.map Wr.cells)]] x hxo; simp only [List.cons_append, List.nil_append] at k1 k2
    all_goals
      refine ⟨?_, ?_⟩
      · (rw [entF, List.length_append]; omega)
      · rw [LoopS_eq]
        simp -implicitDefEqProofs (disch := first | omega | assumption) only [go_sem, Nat.reduceBEq, Nat.reduceAdd, Nat.reduceSub, Nat.reduceMul, Nat.reduceLeDiff, Nat.reduceEqDiff, Nat.reduceLT, Int.reduceNeg, Int.reduceAdd, Int.reduceSub, Int.reduceMul, Int.reduceLE, Int.reduceLT, Int.reduceEq, Int.reduceToNat, reduceCtorEq, evL30x0, B30x0, hi, hx, IntWalk.i64_in, List.map_append, List.foldl_cons, hx, Ent.cells, Ent.v, k1, k2, sm1, u8s_len, u8s_app, hel, List.take_length, entF, if_true, if_false]
        skip
theorem log_len {l : List Ent} (h : logOk l = true) : l.length ≤ 12 := ((logOk_iff l).1 h).2.2
-- find30
theorem own_LogBytes (d : Nat) (c : Bool) (l : List Ent) (h1 : LimE l) : ∃ v hc ids, runD tab noExt (d + 10) 30 [.sl c 2 (l.map Ent.cells)] [] = some ([v], hc) ∧ OwnF hc (.sub fdByte) v (.sub (byU (logBytes l))) ids ∧ ids.Nodup := by
  obtain ⟨e1, e2, e3⟩ := h1.fine
  have hv1 := run_logI d c l e3 e2
  unfold logBytes
  cases o1 : logOk l
  · rw [o1] at hv1
    refine ⟨.sl true 1 [], [], [], ?_, own_nil rfl, List.nodup_nil⟩
    rw [runD_eq find30 _ _ _ (by simp)]
    simp -implicitDefEqProofs (disch := omega) only [go_sem, Nat.reduceBEq, Nat.reduceAdd, Nat.reduceSub, Nat.reduceMul, Nat.reduceLeDiff, Nat.reduceEqDiff, Nat.reduceLT, Int.reduceNeg, Int.reduceAdd, Int.reduceSub, Int.reduceMul, Int.reduceLE, Int.reduceLT, Int.reduceEq, Int.reduceToNat, reduceCtorEq, hv1]
  · rw [o1] at hv1
    have hl12 := log_len o1
    obtain ⟨hl, hle⟩ := loop_lbI d c l hl12 (log_one o1) 1099511627775 (by omega) [] (by simp)
    simp only [if_true]
    generalize l.foldl entF [] = b at hl hle ⊢
    have ht : List.take b.length (u8s b) = u8s b := List.take_of_length_le (by rw [u8s_len]; omega)
    obtain ⟨v1, hc, is0, q1, q2, q3⟩ := own_cloneByt (d + 7) false b (by omega)
    obtain ⟨w, hw, js, k1, k2, k3, k4, k5, k6⟩ := own_call (h := [.rows b.length 1 (u8s b)]) (args := [.ref 0 b.length 0 b.length false]) (by simp only [pureDAs, mapO, pureDA, pureD, deepest, List.getElem?_cons_zero, if_true, List.drop_zero, ht]) q1 q2 q3
    refine ⟨w, hw, js, ?_, k2, k3⟩
    simp only [u8s_nil, List.length_nil, Int.natCast_zero] at hl
    rw [runD_eq find30 _ _ _ (by simp)]
    simp -implicitDefEqProofs (disch := omega) only [go_sem, Nat.reduceBEq, Nat.reduceAdd, Nat.reduceSub, Nat.reduceMul, Nat.reduceLeDiff, Nat.reduceEqDiff, Nat.reduceLT, Int.reduceNeg, Int.reduceAdd, Int.reduceSub, Int.reduceMul, Int.reduceLE, Int.reduceLT, Int.reduceEq, Int.reduceToNat, reduceCtorEq, hv1]
    try simp -implicitDefEqProofs only [go_sem, Nat.reduceBEq, Nat.reduceAdd, Nat.reduceSub, Nat.reduceMul, Nat.reduceLeDiff, Nat.reduceEqDiff, Nat.reduceLT, Int.reduceNeg, Int.reduceAdd, Int.reduceSub, Int.reduceMul, Int.reduceLE, Int.reduceLT, Int.reduceEq, Int.reduceToNat, reduceCtorEq] at hl
    rw [hl]
    rcases own_cases k2 with ⟨cx, rfl⟩ | ⟨id, st, m, clip, rfl⟩ <;> simp -implicitDefEqProofs (disch := first | omega | assumption) only [go_sem, Nat.reduceBEq, Nat.reduceAdd, Nat.reduceSub, Nat.reduceMul, Nat.reduceLeDiff, Nat.reduceEqDiff, Nat.reduceLT, Int.reduceNeg, Int.reduceAdd, Int.reduceSub, Int.reduceMul, Int.reduceLE, Int.reduceLT, Int.reduceEq, Int.reduceToNat, reduceCtorEq, k1, resOk]
theorem loop_lbS (d : Nat) (c : Bool) (l : List Ent) (hv1 : retP (runD tab noExt (d + 6)) 63 [.sl c 2 (l.map Ent.cells)] = some [.bool true]) (hl : l.length ≤ 12) (hok : ∀ e ∈ l, logOk [e] = true) (hlm : ∀ e ∈ l, LimE [e]) (K : Nat) (hK : (l).length ≤ K) (b0 : List Int) (hb0 : (fun (i : Nat) (b : List Int) => b.length ≤ 180 * i) 0 b0) : LoopS (runD tab noExt (d + 6)) (drawI (runD tab noExt (d + 6))) [0, 3, 4] [3] L51x0 ([.rows 0 1 [], .rows (b0).length 1 (u8s (b0))] : Heap).length K [(0, .sl c 2 (l.map Ent.cells)), (3, .ref 1 (b0).length 0 (b0).length false), (4, .int .i64 (0 : Nat))] [.rows 0 1 [], .rows (b0).length 1 (u8s (b0))] = (some (.exit 0, [(3, .ref 1 (((l).foldl (entF) b0)).length 0 (((l).foldl (entF) b0)).length false)], [.rows 0 1 [], .rows (((l).foldl (entF) b0)).length 1 (u8s (((l).foldl (entF) b0)))]) : Out) ∧ (fun (i : Nat) (b : List Int) => b.length ≤ 180 * i) (l).length ((l).foldl (entF) b0) := by
  have key := LoopS_foldI (run := (runD tab noExt (d + 6))) (draw := drawI (runD tab noExt (d + 6))) (live := [0, 3, 4]) (out := [3]) (c := L51x0) (n0 := ([.rows 0 1 [], .rows (b0).length 1 (u8s (b0))] : Heap).length) (l) (entF) (fun (i : Nat) (b : List Int) => b.length ≤ 180 * i) (fun (i : Nat) (b : List Int) => [(0, .sl c 2 (l.map Ent.cells)), (3, .ref 1 (b).length 0 (b).length false), (4, .int .i64 (i : Nat))]) (fun (i : Nat) (b : List Int) => [.rows 0 1 [], .rows (b).length 1 (u8s (b))]) (fun b => (some (.exit 0, [(3, .ref 1 (b).length 0 (b).length false)], [.rows 0 1 [], .rows (b).length 1 (u8s (b))]) : Out)) (fun b K hb => ?_) (fun (i : Nat) (x : Ent) b K hi hx hb => ?_) K hK b0 hb0
  · simp only [Int.natCast_zero] at key
    exact key
  · rw [LoopS_eq]
    simp -implicitDefEqProofs only [go_sem, Nat.reduceBEq, Nat.reduceAdd, Nat.reduceSub, Nat.reduceMul, Nat.reduceLeDiff, Nat.reduceEqDiff, Nat.reduceLT, Int.reduceNeg, Int.reduceAdd, Int.reduceSub, Int.reduceMul, Int.reduceLE, Int.reduceLT, Int.reduceEq, Int.reduceToNat, reduceCtorEq, evL51x0, B51x0, Int.lt_irrefl, hv1]
  · have hxo := hok x (List.mem_of_getElem? hx); have hxl := fr_len hxo; have sm1 : b.length + (frB (bodyB x)).length < 4294967296 := (by have := hb; omega); have k1 := run_EntryBytesS d x (hlm x (List.mem_of_getElem? hx)); rw [entBytes, if_pos hxo] at k1; simp only [Ent.cells, Ent.v] at k1
    all_goals
      refine ⟨?_, ?_⟩
      · (rw [entF, List.length_append]; omega)
      · rw [LoopS_eq]
        simp -implicitDefEqProofs (disch := first | omega | assumption) only [go_sem, Nat.reduceBEq, Nat.reduceAdd, Nat.reduceSub, Nat.reduceMul, Nat.reduceLeDiff, Nat.reduceEqDiff, Nat.reduceLT, Int.reduceNeg, Int.reduceAdd, Int.reduceSub, Int.reduceMul, Int.reduceLE, Int.reduceLT, Int.reduceEq, Int.reduceToNat, reduceCtorEq, evL51x0, B51x0, hi, hx, IntWalk.i64_in, List.map_append, List.foldl_cons, hv1, hx, Ent.cells, Ent.v, hv1, k1, sm1, u8s_len, u8s_app, entF, if_true, if_false]
        skip
-- find51
theorem run_LogBytesS (d : Nat) (c : Bool) (l : List Ent) (h1 : LimE l) : retP (runD tab noExt (d + 7)) 51 [.sl c 2 (l.map Ent.cells)] = some [.sl false 1 (u8s (logBytes l))] := by
  obtain ⟨e1, e2, e3⟩ := h1.fine
  have hv1 := run_logS (d + 1) c l e3 e2
  unfold logBytes
  cases o1 : logOk l
  · rw [o1] at hv1
    have hl : LoopS (runD tab noExt (d + 6)) (drawI (runD tab noExt (d + 6))) [0, 3, 4] [3] L51x0 2 1099511627775 [(0, .sl c 2 (l.map Ent.cells)), (3, .ref 1 0 0 0 false), (4, .int .i64 0)] [.rows 0 1 [], .rows 0 1 []] = some (.exit 0, [(3, .ref 1 0 0 0 false)], [.rows 0 1 [], .rows 0 1 []]) := by
      rw [LoopS_eq]
      by_cases h0 : (0 : Int) < l.length
      · simp -implicitDefEqProofs (disch := omega) only [go_sem, Nat.reduceBEq, Nat.reduceAdd, Nat.reduceSub, Nat.reduceMul, Nat.reduceLeDiff, Nat.reduceEqDiff, Nat.reduceLT, Int.reduceNeg, Int.reduceAdd, Int.reduceSub, Int.reduceMul, Int.reduceLE, Int.reduceLT, Int.reduceEq, Int.reduceToNat, reduceCtorEq, evL51x0, B51x0, hv1, h0]
      · simp -implicitDefEqProofs (disch := omega) only [go_sem, Nat.reduceBEq, Nat.reduceAdd, Nat.reduceSub, Nat.reduceMul, Nat.reduceLeDiff, Nat.reduceEqDiff, Nat.reduceLT, Int.reduceNeg, Int.reduceAdd, Int.reduceSub, Int.reduceMul, Int.reduceLE, Int.reduceLT, Int.reduceEq, Int.reduceToNat, reduceCtorEq, evL51x0, B51x0, hv1, h0]
    rw [retP, runD_eq find51 _ _ _ (by simp)]
    simp -implicitDefEqProofs (disch := omega) only [go_sem, Nat.reduceBEq, Nat.reduceAdd, Nat.reduceSub, Nat.reduceMul, Nat.reduceLeDiff, Nat.reduceEqDiff, Nat.reduceLT, Int.reduceNeg, Int.reduceAdd, Int.reduceSub, Int.reduceMul, Int.reduceLE, Int.reduceLT, Int.reduceEq, Int.reduceToNat, reduceCtorEq, elemsOf, elemOf]
    try simp -implicitDefEqProofs only [go_sem, Nat.reduceBEq, Nat.reduceAdd, Nat.reduceSub, Nat.reduceMul, Nat.reduceLeDiff, Nat.reduceEqDiff, Nat.reduceLT, Int.reduceNeg, Int.reduceAdd, Int.reduceSub, Int.reduceMul, Int.reduceLE, Int.reduceLT, Int.reduceEq, Int.reduceToNat, reduceCtorEq] at hl
    rw [hl]
    simp -implicitDefEqProofs (disch := omega) only [go_sem, Nat.reduceBEq, Nat.reduceAdd, Nat.reduceSub, Nat.reduceMul, Nat.reduceLeDiff, Nat.reduceEqDiff, Nat.reduceLT, Int.reduceNeg, Int.reduceAdd, Int.reduceSub, Int.reduceMul, Int.reduceLE, Int.reduceLT, Int.reduceEq, Int.reduceToNat, reduceCtorEq, u8s_nil, Bool.false_eq_true, if_false]
  · rw [o1] at hv1
    have hl12 := log_len o1
    obtain ⟨hl, hle⟩ := loop_lbS d c l hv1 hl12 (log_one o1) (fun e he => h1.sub (by simp) (fun x hx => by rw [List.mem_singleton.1 hx]; exact he)) 1099511627775 (by omega) [] (by simp)
    simp only [if_true]
    generalize l.foldl entF [] = b at hl hle ⊢
    have ht : List.take b.length (u8s b) = u8s b := List.take_of_length_le (by rw [u8s_len]; omega)
    simp only [u8s_nil, List.length_nil, Int.natCast_zero] at hl
    rw [retP, runD_eq find51 _ _ _ (by simp)]
    simp -implicitDefEqProofs (disch := omega) only [go_sem, Nat.reduceBEq, Nat.reduceAdd, Nat.reduceSub, Nat.reduceMul, Nat.reduceLeDiff, Nat.reduceEqDiff, Nat.reduceLT, Int.reduceNeg, Int.reduceAdd, Int.reduceSub, Int.reduceMul, Int.reduceLE, Int.reduceLT, Int.reduceEq, Int.reduceToNat, reduceCtorEq, elemsOf, elemOf]
    try simp -implicitDefEqProofs only [go_sem, Nat.reduceBEq, Nat.reduceAdd, Nat.reduceSub, Nat.reduceMul, Nat.reduceLeDiff, Nat.reduceEqDiff, Nat.reduceLT, Int.reduceNeg, Int.reduceAdd, Int.reduceSub, Int.reduceMul, Int.reduceLE, Int.reduceLT, Int.reduceEq, Int.reduceToNat, reduceCtorEq] at hl
    rw [hl]
    simp -implicitDefEqProofs (disch := omega) only [go_sem, Nat.reduceBEq, Nat.reduceAdd, Nat.reduceSub, Nat.reduceMul, Nat.reduceLeDiff, Nat.reduceEqDiff, Nat.reduceLT, Int.reduceNeg, Int.reduceAdd, Int.reduceSub, Int.reduceMul, Int.reduceLE, Int.reduceLT, Int.reduceEq, Int.reduceToNat, reduceCtorEq, ht]
theorem entF_len : ∀ (l : List Ent) (x : List Int), (∀ e ∈ l, logOk [e] = true) → (l.foldl entF x).length ≤ x.length + 180 * l.length
  | [], x, _ => by simp
  | e :: l, x, h => by
    have h1 := (fr_len (h e (by simp))).2
    have h2 := entF_len l (entF x e) (fun y hy => h y (by simp [hy]))
    rw [List.foldl_cons]
    have h3 : (entF x e).length = x.length + (frB (bodyB e)).length := by rw [entF, List.length_append]
    rw [List.length_cons]
    omega
theorem logBytes_len (l : List Ent) : (logBytes l).length ≤ 2160 := by
  unfold logBytes
  split
  · rename_i h
    have h1 := entF_len l [] (log_one h)
    have h2 := log_len h
    simp only [List.length_nil] at h1
    omega
  · simp
end Go.Proofs.Yteaojpfofifmnaa.PE
/- Whether two lists of bytes are the same; entries' bytes as a call's result. -/
set_option linter.unusedSimpArgs false
set_option linter.unusedVariables false
set_option maxHeartbeats 8000000
set_option maxRecDepth 20000
namespace Go.Proofs.Yteaojpfofifmnaa.PE
open Go.RowKit

theorem loop_eqB (d : Nat) (c c' : Bool) (a b : List Int) (hs : a.length < 1099511627776) (hlen : a.length = b.length) (K : Nat) (hK : (a.zip b).length ≤ K) : LoopS (runD tab noExt d) (drawI (runD tab noExt d)) [0, 1, 12, 13] [4] L76x0 ([] : Heap).length K [(0, .sl c 1 (u8s a)), (1, .sl c' 1 (u8s b)), (12, .int .i64 (a.length : Int)), (13, .int .i64 0)] [] = if (a.zip b).all (fun p => decide (p.1 = p.2)) then (some (.exit 0, [(4, .undef)], []) : Out) else (some (.ret, [(4, .bool false)], []) : Out) := by
  have key := LoopS_all (run := (runD tab noExt d)) (draw := drawI (runD tab noExt d)) (live := [0, 1, 12, 13]) (out := [4]) (c := L76x0) (n0 := ([] : Heap).length) (a.zip b) (fun p => decide (p.1 = p.2)) (fun (i : Nat) => [(0, .sl c 1 (u8s a)), (1, .sl c' 1 (u8s b)), (12, .int .i64 (a.length : Int)), (13, .int .i64 i)]) [] (some (.exit 0, [(4, .undef)], []) : Out) (some (.ret, [(4, .bool false)], []) : Out) (fun K => ?_) (fun (i : Nat) (x : Int × Int) K hi hx => ?_) K hK
  · simp only [Int.natCast_zero] at key
    exact key
  · rw [LoopS_eq]
    simp -implicitDefEqProofs only [go_sem, Nat.reduceBEq, Nat.reduceAdd, Nat.reduceSub, Nat.reduceMul, Nat.reduceLeDiff, Nat.reduceEqDiff, Nat.reduceLT, Int.reduceNeg, Int.reduceAdd, Int.reduceSub, Int.reduceMul, Int.reduceLE, Int.reduceLT, Int.reduceEq, Int.reduceToNat, reduceCtorEq, evL76x0, B76x0, Int.lt_irrefl, List.length_zip, hlen, Nat.min_self, evC_draw, evD76x0, E76x0, u8s_len]
  · obtain ⟨g1, g2⟩ := List.getElem?_zip_eq_some.1 hx; rw [List.length_zip, hlen, Nat.min_self] at hi; obtain ⟨k1, k2⟩ := x; have g1 := u8s_at g1; have g2 := u8s_at g2
    rw [LoopS_eq]
    simp -implicitDefEqProofs (disch := omega) only [go_sem, Nat.reduceBEq, Nat.reduceAdd, Nat.reduceSub, Nat.reduceMul, Nat.reduceLeDiff, Nat.reduceEqDiff, Nat.reduceLT, Int.reduceNeg, Int.reduceAdd, Int.reduceSub, Int.reduceMul, Int.reduceLE, Int.reduceLT, Int.reduceEq, Int.reduceToNat, reduceCtorEq, evL76x0, B76x0, hi, hx, IntWalk.i64_in, List.length_zip, hlen, Nat.min_self, evC_draw, evD76x0, E76x0, u8s_len, *]
    repeat' ((first | rw [GuardI_ndec] | rw [CondC_ndec] | rw [GuardQ_ndec] | rw [GuardI_dec] | rw [CondC_dec] | rw [GuardQ_dec] | rw [GuardI_nby] | rw [CondC_nby] | rw [GuardQ_nby] | rw [GuardQ_by] | rw [GuardI_by] | rw [CondC_by]) <;> split <;> simp -implicitDefEqProofs (disch := omega) only [go_sem, Nat.reduceBEq, Nat.reduceAdd, Nat.reduceSub, Nat.reduceMul, Nat.reduceLeDiff, Nat.reduceEqDiff, Nat.reduceLT, Int.reduceNeg, Int.reduceAdd, Int.reduceSub, Int.reduceMul, Int.reduceLE, Int.reduceLT, Int.reduceEq, Int.reduceToNat, reduceCtorEq, hi, hx, IntWalk.i64_in, List.length_zip, hlen, Nat.min_self, evC_draw, evD76x0, E76x0, u8s_len, *, *])
    all_goals first | rfl | (simp_all []; done) | (simp_all []; omega)
-- find76
theorem run_eqB (d : Nat) (c c' : Bool) (a b : List Int) (hs : a.length < 1099511627776) : retP (runD tab noExt (d + 1)) 76 [.sl c 1 (u8s a), .sl c' 1 (u8s b)] = some [.bool (decide (a = b))] := by
  rw [retP, runD_eq find76 _ _ _ (by simp)]
  by_cases hlen : a.length = b.length
  · have hl := loop_eqB d c c' a b hs hlen 1099511627775 (by simp; omega)
    simp -implicitDefEqProofs only [go_sem, Nat.reduceBEq, Nat.reduceAdd, Nat.reduceSub, Nat.reduceMul, Nat.reduceLeDiff, Nat.reduceEqDiff, Nat.reduceLT, Int.reduceNeg, Int.reduceAdd, Int.reduceSub, Int.reduceMul, Int.reduceLE, Int.reduceLT, Int.reduceEq, Int.reduceToNat, reduceCtorEq, hlen, u8s_len] at hl ⊢
    rw [hl, zip_same a b hlen]
    by_cases h : a = b <;> simp -implicitDefEqProofs only [go_sem, Nat.reduceBEq, Nat.reduceAdd, Nat.reduceSub, Nat.reduceMul, Nat.reduceLeDiff, Nat.reduceEqDiff, Nat.reduceLT, Int.reduceNeg, Int.reduceAdd, Int.reduceSub, Int.reduceMul, Int.reduceLE, Int.reduceLT, Int.reduceEq, Int.reduceToNat, reduceCtorEq, h]
  · have h1 : ((a.length : Int) = b.length) = False := eq_false (by omega)
    have h2 : ¬ a = b := fun e => hlen (by rw [e])
    simp -implicitDefEqProofs only [go_sem, Nat.reduceBEq, Nat.reduceAdd, Nat.reduceSub, Nat.reduceMul, Nat.reduceLeDiff, Nat.reduceEqDiff, Nat.reduceLT, Int.reduceNeg, Int.reduceAdd, Int.reduceSub, Int.reduceMul, Int.reduceLE, Int.reduceLT, Int.reduceEq, Int.reduceToNat, reduceCtorEq, h1, h2, u8s_len]
/-- A heap behind a call: what was there, and more. -/
theorem heap_more {h hw : Heap} (k5 : ∀ j, j < h.length → hw[j]? = h[j]?) : hw = h ++ hw.drop h.length := by
  have : hw.take h.length = h := by
    apply List.ext_getElem?
    intro j
    rcases Nat.lt_or_ge j h.length with hj | hj
    · rw [List.getElem?_take_of_lt hj, k5 j hj]
    · rw [List.getElem?_eq_none hj, List.getElem?_eq_none (by simp; omega)]
  conv => lhs; rw [← List.take_append_drop h.length hw, this]
theorem entB_call (d : Nat) (h : Heap) {args args' : List V} (e : Ent) (hp : pureDAs h args = some args') (ha : args' = [.agg e.cells]) (h1 : LimE [e]) : ∃ v t, callX (runD tab noExt (d + 10)) h 0 18 args = some (v, h ++ t) ∧
    ((∃ c, v = .sl c 1 [] ∧ entBytes e = []) ∨ ∃ id st clip, v = .ref id st 0 (entBytes e).length clip ∧ (h ++ t)[id]? = some (.rows st 1 (u8s (entBytes e)))) := by
  obtain ⟨v, hc, ids, q1, q2, q3⟩ := own_EntryBytes d e h1
  rw [← ha] at q1
  obtain ⟨w, hw, js, k1, k2, k3, k4, k5, k6⟩ := own_call (h := h) hp q1 q2 q3
  have ht := heap_more k5
  refine ⟨w, hw.drop h.length, by rw [k1, ← ht], ?_⟩
  rw [← ht]
  simp only [OwnF] at k2
  obtain ⟨xs, e1, h2⟩ := k2
  injection e1 with e1
  subst e1
  rcases h2 with ⟨c, rfl, e2, _⟩ | ⟨id, st, clip, cont, r, rfl, hb, _, hz⟩
  · left
    refine ⟨c, rfl, ?_⟩
    have := congrArg List.length e2
    rw [by_len] at this
    exact List.length_eq_zero_iff.1 this
  · right
    have := zip_bytes hz
    subst this
    refine ⟨id, st, clip, by rw [u8s_len], hb⟩
end Go.Proofs.Yteaojpfofifmnaa.PE
/- Entries read: the program's loop. -/
set_option linter.unusedSimpArgs false
set_option linter.unusedVariables false
set_option maxHeartbeats 8000000
set_option maxRecDepth 20000
namespace Go.Proofs.Yteaojpfofifmnaa.PE
open Go.RowKit

theorem run_rowFromI (d : Nat) (c : Bool) (b : List UInt8) (hb : b.length < 1099511627776) : ∃ cl, retP (runD tab noExt (d + 6)) 31 [.sl c 1 (cellsOfBytes b)] = some [.sl cl 3 ((rFrom b).1.map Val.cells), .int .i64 (rFrom b).2] := by
  obtain ⟨v, hc, ids, r, o, _⟩ := own_rowFrom d c b hb
  obtain ⟨q, e, g⟩ := retP_ownI r o (by decide)
  obtain ⟨cl, ct, rfl, hz⟩ := purS_Value g
  obtain ⟨vs, rfl, h2⟩ := valsU_of hz
  have : (rFrom b).1 = vs := by simpa using map_same (fun _ _ => valU_inj) h2
  exact ⟨cl, by rw [e, this]⟩
-- find27
theorem step_efI (d : Nat) (c c0 : Bool) (b : List (List V)) (n : Nat) (t : Int) (kk : Nat) (i : Nat) (hi : i < kk) (hk : kk ≤ 255) (ws : List Wr) (hl : ws.length = i) (x y : UInt8) (r : List UInt8) (hr : r.length < 1099511627776) (h0 : 0 < r.length) (hn : (rFrom r).2 ≠ 0) (K : Nat) :
    ∃ cl, LoopS (runD tab noExt (d + 10)) (drawI (runD tab noExt (d + 10))) [0, 2, 5, 6, 7, 33, 34] [0, 2, 3, 5, 6] L27x0 2 (K + 1) [(0, .sl c0 1 b), (2, .ptr 0 0 0 0), (5, .int .i64 n), (6, .ptr 1 0 0 0), (7, .sl c 1 (cellsOfBytes (x :: y :: r))), (33, .int .i64 kk), (34, .int .i64 i)] (wHeap t ws) = LoopS (runD tab noExt (d + 10)) (drawI (runD tab noExt (d + 10))) [0, 2, 5, 6, 7, 33, 34] [0, 2, 3, 5, 6] L27x0 2 K [(0, .sl c0 1 b), (2, .ptr 0 0 0 0), (5, .int .i64 n), (6, .ptr 1 0 0 0), (7, .sl c 1 (cellsOfBytes (r.drop (rFrom r).2))), (33, .int .i64 kk), (34, .int .i64 (i + 1 : Nat))] (wHeap t (ws ++ [⟨x.toNat, ⟨cl, (rFrom r).1⟩, decide (y.toNat = 1)⟩])) := by
  obtain ⟨cl, hv⟩ := run_rowFromI (d + 4) c r hr
  refine ⟨cl, ?_⟩
  have hle := rFrom_le r
  have hx := x.toNat_lt
  have hyl := y.toNat_lt
  have htk : List.take r.length (cellsOfBytes r) = cellsOfBytes r := List.take_of_length_le (by rw [cob_len]; omega)
  have htk2 : List.take (r.length - (rFrom r).2) (cellsOfBytes (r.drop (rFrom r).2)) = cellsOfBytes (r.drop (rFrom r).2) := List.take_of_length_le (by rw [cob_len, List.length_drop]; omega)
  have g1 : ((r.length : Int) + 2 < 3) = False := eq_false (by omega)
  have g3 : (((rFrom r).2 : Int) = 0) = False := eq_false (by omega)
  have g4 : (decide ((y.toNat : Int) = 1)) = decide (y.toNat = 1) := decide_eq_decide.2 (by omega)
  have g5 : ((i : Int) < kk) := by omega
  have g6 : ((2 : Int) + (rFrom r).2).toNat = (rFrom r).2 + 2 := by omega
  have g7 : (2 : Int) + (rFrom r).2 ≤ (r.length : Int) + 2 := by omega
  have g8 : (0 : Int) ≤ 2 + (rFrom r).2 := by omega
  have g9 : (2 : Int) ≤ (r.length : Int) + 2 := by omega
  have g10 : (1 : Int) < (r.length : Int) + 2 := by omega
  have g11 : (0 : Int) < (r.length : Int) + 2 := by omega
  have g12 : ((r.length : Int) + 2).toNat = r.length + 2 := by omega
  cases ws with
  | nil =>
    rw [LoopS_eq]
    simp -implicitDefEqProofs (disch := omega) only [go_sem, Nat.reduceBEq, Nat.reduceAdd, Nat.reduceSub, Nat.reduceMul, Nat.reduceLeDiff, Nat.reduceEqDiff, Nat.reduceLT, Int.reduceNeg, Int.reduceAdd, Int.reduceSub, Int.reduceMul, Int.reduceLE, Int.reduceLT, Int.reduceEq, Int.reduceToNat, reduceCtorEq, evL27x0, B27x0, evC_draw, evD27x0, E27x0, wHeap, wPtr, wTail, Wr.cells, Row.v, cob_cons, cob_len, cob_drop, htk, htk2, hv, g1, g3, g4, g5, g6, g7, g8, g9, g10, g11, g12, Nat.add_sub_cancel, Nat.add_sub_add_right, IntWalk.i64_in, elemsOf, elemOf]
  | cons w ws =>
    have hsm : ws.length + 1 + 1 < 4294967296 := by simp only [List.length_cons] at hl; omega
    rw [LoopS_eq]
    simp -implicitDefEqProofs (disch := omega) only [go_sem, Nat.reduceBEq, Nat.reduceAdd, Nat.reduceSub, Nat.reduceMul, Nat.reduceLeDiff, Nat.reduceEqDiff, Nat.reduceLT, Int.reduceNeg, Int.reduceAdd, Int.reduceSub, Int.reduceMul, Int.reduceLE, Int.reduceLT, Int.reduceEq, Int.reduceToNat, reduceCtorEq, evL27x0, B27x0, evC_draw, evD27x0, E27x0, wHeap, wPtr, wTail, Wr.cells, Row.v, cob_cons, cob_len, cob_drop, htk, htk2, hv, hsm, g1, g3, g4, g5, g6, g7, g8, g9, g10, g11, g12, Nat.add_sub_cancel, Nat.add_sub_add_right, IntWalk.i64_in, elemsOf, elemOf, List.map_append, List.length_append]
end Go.Proofs.Yteaojpfofifmnaa.PE
/- Entries read: the program. -/
set_option linter.unusedSimpArgs false
set_option linter.unusedVariables false
set_option maxHeartbeats 8000000
set_option maxRecDepth 20000
namespace Go.Proofs.Yteaojpfofifmnaa.PE
open Go.RowKit

-- find27
theorem wsI_two {m : Nat} {x y : UInt8} {r : List UInt8} (h : (rFrom r).2 = 0) : wsI (m + 1) (x :: y :: r) = none := by simp only [wsI, if_pos h]
theorem loop_efI (d : Nat) (c0 : Bool) (b : List (List V)) (n : Nat) (t : Int) (kk : Nat) (hk : kk ≤ 255) : ∀ (m i : Nat) (c : Bool) (rest : List UInt8) (ws : List Wr), i + m = kk → rest.length < 1099511627776 → ws.length = i → ∀ K, m ≤ K →
    match wsI m rest with
    | none => ∃ (ws' : List Wr), LoopS (runD tab noExt (d + 10)) (drawI (runD tab noExt (d + 10))) [0, 2, 5, 6, 7, 33, 34] [0, 2, 3, 5, 6] L27x0 2 K [(0, .sl c0 1 b), (2, .ptr 0 0 0 0), (5, .int .i64 n), (6, .ptr 1 0 0 0), (7, .sl c 1 (cellsOfBytes rest)), (33, .int .i64 kk), (34, .int .i64 i)] (wHeap t ws) = some (.ret, [(0, .sl c0 1 b), (2, .ptr 0 0 0 0), (3, .int .i64 0), (5, .int .i64 n), (6, .ptr 1 0 0 0)], wHeap t ws')
    | some (vs, _) => ∃ (ws' : List Wr), ws'.map wrU = ws.map wrU ++ vs.map wrU ∧ LoopS (runD tab noExt (d + 10)) (drawI (runD tab noExt (d + 10))) [0, 2, 5, 6, 7, 33, 34] [0, 2, 3, 5, 6] L27x0 2 K [(0, .sl c0 1 b), (2, .ptr 0 0 0 0), (5, .int .i64 n), (6, .ptr 1 0 0 0), (7, .sl c 1 (cellsOfBytes rest)), (33, .int .i64 kk), (34, .int .i64 i)] (wHeap t ws) = some (.exit 0, [(0, .sl c0 1 b), (2, .ptr 0 0 0 0), (3, .undef), (5, .int .i64 n), (6, .ptr 1 0 0 0)], wHeap t ws')
  | 0, i, c, rest, ws, hi, hp, hr, K, hK => by
    have e : i = kk := by omega
    subst e
    simp only [wsI]
    refine ⟨ws, by simp, ?_⟩
    rw [LoopS_eq]
    cases ws <;> simp -implicitDefEqProofs (disch := omega) only [go_sem, Nat.reduceBEq, Nat.reduceAdd, Nat.reduceSub, Nat.reduceMul, Nat.reduceLeDiff, Nat.reduceEqDiff, Nat.reduceLT, Int.reduceNeg, Int.reduceAdd, Int.reduceSub, Int.reduceMul, Int.reduceLE, Int.reduceLT, Int.reduceEq, Int.reduceToNat, reduceCtorEq, evL27x0, B27x0, wHeap, wPtr, wTail, IntWalk.i64_in, Int.lt_irrefl]
  | m + 1, i, c, rest, ws, hi, hp, hr, K, hK => by
    obtain ⟨K, rfl⟩ : ∃ k', K = k' + 1 := ⟨K - 1, by omega⟩
    have hlt : (i : Int) < kk := by omega
    match rest, hp with
    | [], _ =>
      refine ⟨ws, ?_⟩
      rw [LoopS_eq]
      cases ws <;> simp -implicitDefEqProofs (disch := omega) only [go_sem, Nat.reduceBEq, Nat.reduceAdd, Nat.reduceSub, Nat.reduceMul, Nat.reduceLeDiff, Nat.reduceEqDiff, Nat.reduceLT, Int.reduceNeg, Int.reduceAdd, Int.reduceSub, Int.reduceMul, Int.reduceLE, Int.reduceLT, Int.reduceEq, Int.reduceToNat, reduceCtorEq, evL27x0, B27x0, wHeap, wPtr, wTail, hlt, cob_nil, IntWalk.i64_in]
    | [x], _ =>
      refine ⟨ws, ?_⟩
      rw [LoopS_eq]
      cases ws <;> simp -implicitDefEqProofs (disch := omega) only [go_sem, Nat.reduceBEq, Nat.reduceAdd, Nat.reduceSub, Nat.reduceMul, Nat.reduceLeDiff, Nat.reduceEqDiff, Nat.reduceLT, Int.reduceNeg, Int.reduceAdd, Int.reduceSub, Int.reduceMul, Int.reduceLE, Int.reduceLT, Int.reduceEq, Int.reduceToNat, reduceCtorEq, evL27x0, B27x0, wHeap, wPtr, wTail, hlt, cob_nil, cob_cons, IntWalk.i64_in]
    | [x, y], _ =>
      refine ⟨ws, ?_⟩
      rw [LoopS_eq]
      cases ws <;> simp -implicitDefEqProofs (disch := omega) only [go_sem, Nat.reduceBEq, Nat.reduceAdd, Nat.reduceSub, Nat.reduceMul, Nat.reduceLeDiff, Nat.reduceEqDiff, Nat.reduceLT, Int.reduceNeg, Int.reduceAdd, Int.reduceSub, Int.reduceMul, Int.reduceLE, Int.reduceLT, Int.reduceEq, Int.reduceToNat, reduceCtorEq, evL27x0, B27x0, wHeap, wPtr, wTail, hlt, cob_nil, cob_cons, IntWalk.i64_in]
    | x :: y :: z :: r, hp =>
      generalize hrr : z :: r = r1 at hp ⊢
      have h0 : 0 < r1.length := by rw [← hrr]; simp
      have hr1 : r1.length < 1099511627776 := by simp only [List.length_cons] at hp; omega
      clear hrr
      by_cases hn : (rFrom r1).2 = 0
      · rw [wsI_two hn]
        refine ⟨ws, ?_⟩
        obtain ⟨cl, hv⟩ := run_rowFromI (d + 4) c r1 hr1
        have htk : List.take r1.length (cellsOfBytes r1) = cellsOfBytes r1 := List.take_of_length_le (by rw [cob_len]; omega)
        have g1 : ((r1.length : Int) + 2 < 3) = False := eq_false (by omega)
        have g3 : (((rFrom r1).2 : Int) = 0) := by omega
        have g9 : (2 : Int) ≤ (r1.length : Int) + 2 := by omega
        have g12 : ((r1.length : Int) + 2).toNat = r1.length + 2 := by omega
        rw [LoopS_eq]
        cases ws <;> simp -implicitDefEqProofs (disch := omega) only [go_sem, Nat.reduceBEq, Nat.reduceAdd, Nat.reduceSub, Nat.reduceMul, Nat.reduceLeDiff, Nat.reduceEqDiff, Nat.reduceLT, Int.reduceNeg, Int.reduceAdd, Int.reduceSub, Int.reduceMul, Int.reduceLE, Int.reduceLT, Int.reduceEq, Int.reduceToNat, reduceCtorEq, evL27x0, B27x0, wHeap, wPtr, wTail, hlt, cob_cons, cob_len, cob_drop, htk, hv, g1, g3, g9, g12, Nat.add_sub_cancel, IntWalk.i64_in]
      · obtain ⟨cl, step⟩ := step_efI d c c0 b n t kk i (by omega) hk ws hr x y r1 hr1 h0 hn K
        have ih := loop_efI d c0 b n t kk hk m (i + 1) c (r1.drop (rFrom r1).2) (ws ++ [⟨x.toNat, ⟨cl, (rFrom r1).1⟩, decide (y.toNat = 1)⟩]) (by omega) (by rw [List.length_drop]; omega) (by simp [hr]) K (by omega)
        have e : wsI (m + 1) (x :: y :: r1) = match wsI m (r1.drop (rFrom r1).2) with
          | none => none
          | some (ws, n) => some (wrOf x y r1 :: ws, (rFrom r1).2 + n + 2) := by simp only [wsI, if_neg hn]; try (cases wsI m (r1.drop (rFrom r1).2) <;> rfl)
        rw [e, step]
        revert ih
        generalize wsI m (r1.drop (rFrom r1).2) = R
        intro ih
        cases R with
        | none => exact ih
        | some q =>
          obtain ⟨vs, n⟩ := q
          simp only at ih ⊢
          obtain ⟨ws', h1, h2⟩ := ih
          refine ⟨ws', ?_, h2⟩
          rw [h1]
          simp [wrU, wrOf]
end Go.Proofs.Yteaojpfofifmnaa.PE
/- Entries read: the program, as memory of one's own. -/
set_option linter.unusedSimpArgs false
set_option linter.unusedVariables false
set_option maxHeartbeats 8000000
set_option maxRecDepth 20000
namespace Go.Proofs.Yteaojpfofifmnaa.PE
open Go.RowKit

theorem wHeap_pure (t : Int) (ws : List Wr) : pureDAs (wHeap t ws) [.agg [.int .i64 t, wPtr ws]] = some [.agg (Ent.cells ⟨t, ws.isEmpty, ws⟩)] := by
  cases ws with
  | nil => simp only [wHeap, wPtr, wTail, pureDAs, mapO, pureDA, pureD, deepest, Option.map_some, Ent.cells, Ent.v, List.isEmpty_nil, List.map_nil]
  | cons w r =>
    have ht : List.take (r.length + 1) ((w :: r).map Wr.cells) = (w :: r).map Wr.cells := List.take_of_length_le (by simp)
    simp only [wHeap, wPtr, wTail, pureDAs, mapO, pureDA, pureD, deepest, Option.map_some, Ent.cells, Ent.v, List.isEmpty_cons, List.getElem?_cons_succ, List.getElem?_cons_zero, if_true, List.drop_zero, ht]
theorem wHeap_pure1 (t : Int) (ws : List Wr) (tt : Heap) : pureDAs (wHeap t ws ++ tt) [wPtr ws] = some [.sl ws.isEmpty 3 (ws.map Wr.cells)] := by
  cases ws with
  | nil => simp only [wHeap, wPtr, wTail, pureDAs, mapO, pureDA, pureD, deepest, Option.map_some, List.isEmpty_nil, List.map_nil]
  | cons w r =>
    have ht : List.take (r.length + 1) ((w :: r).map Wr.cells) = (w :: r).map Wr.cells := List.take_of_length_le (by simp)
    simp only [wHeap, wPtr, wTail, pureDAs, mapO, pureDA, pureD, deepest, Option.map_some, List.isEmpty_cons, List.cons_append, List.getElem?_cons_succ, List.getElem?_cons_zero, if_true, List.drop_zero, ht]
theorem wsS_none {m : Nat} {b : List UInt8} (h : wsI m b = none) : wsS m b = none := by
  cases hS : wsS m b with
  | none => rfl
  | some q => rw [wsS_wsI m b hS] at h; cases h
-- find27
theorem own_eFrom (d : Nat) (c : Bool) (b : List UInt8) (hb : b.length < 1099511627776) : ∃ v hc ids, runD tab noExt (d + 11) 27 [.sl c 1 (cellsOfBytes b)] [] = some ([.agg [.int .i64 (eFrom b).1.time, v], .int .i64 (eFrom b).2], hc) ∧ OwnF hc (.sub fdWrite) v (.sub ((eFrom b).1.ws.map wrU)) ids ∧ ids.Nodup := by
  obtain ⟨c', hu⟩ := run_unframed (d + 8) c b hb
  unfold eFrom
  cases hU : unF b with
  | none =>
    rw [hU] at hu
    simp only at hu ⊢
    refine ⟨.sl true 3 [], [.box [.int .i64 0, .sl true 3 []]], [], ?_, own_nil rfl, List.nodup_nil⟩
    rw [runD_eq find27 _ _ _ (by simp)]
    simp -implicitDefEqProofs (disch := omega) only [go_sem, Nat.reduceBEq, Nat.reduceAdd, Nat.reduceSub, Nat.reduceMul, Nat.reduceLeDiff, Nat.reduceEqDiff, Nat.reduceLT, Int.reduceNeg, Int.reduceAdd, Int.reduceSub, Int.reduceMul, Int.reduceLE, Int.reduceLT, Int.reduceEq, Int.reduceToNat, reduceCtorEq, hu, entZ]
  | some q =>
    obtain ⟨body, n⟩ := q
    rw [hU] at hu
    simp only at hu ⊢
    obtain ⟨u1, u2, u3⟩ := unF_some hU
    have n0 : ((n : Int) = 0) = False := eq_false (by omega)
    match body, hu, hU, u1, u3 with
    | [], hu, hU, u1, u3 =>
      refine ⟨.sl true 3 [], [.box [.int .i64 0, .sl true 3 []]], [], ?_, own_nil rfl, List.nodup_nil⟩
      rw [runD_eq find27 _ _ _ (by simp)]
      simp -implicitDefEqProofs (disch := omega) only [go_sem, Nat.reduceBEq, Nat.reduceAdd, Nat.reduceSub, Nat.reduceMul, Nat.reduceLeDiff, Nat.reduceEqDiff, Nat.reduceLT, Int.reduceNeg, Int.reduceAdd, Int.reduceSub, Int.reduceMul, Int.reduceLE, Int.reduceLT, Int.reduceEq, Int.reduceToNat, reduceCtorEq, hu, n0, cob_nil, entZ, readS]
    | [x], hu, hU, u1, u3 =>
      refine ⟨.sl true 3 [], [.box [.int .i64 0, .sl true 3 []]], [], ?_, own_nil rfl, List.nodup_nil⟩
      rw [runD_eq find27 _ _ _ (by simp)]
      simp -implicitDefEqProofs (disch := omega) only [go_sem, Nat.reduceBEq, Nat.reduceAdd, Nat.reduceSub, Nat.reduceMul, Nat.reduceLeDiff, Nat.reduceEqDiff, Nat.reduceLT, Int.reduceNeg, Int.reduceAdd, Int.reduceSub, Int.reduceMul, Int.reduceLE, Int.reduceLT, Int.reduceEq, Int.reduceToNat, reduceCtorEq, hu, n0, cob_cons, cob_nil, entZ, readS]
    | t :: m :: rest, hu, hU, u1, u3 =>
      have hm := m.toNat_lt
      have ht := t.toNat_lt
      have l2 : ((rest.length : Int) + 2 < 2) = False := eq_false (by omega)
      have g9 : (2 : Int) ≤ (rest.length : Int) + 2 := by omega
      have g12 : ((rest.length : Int) + 2).toNat = rest.length + 2 := by omega
      have htk : List.take rest.length (cellsOfBytes rest) = cellsOfBytes rest := List.take_of_length_le (by rw [cob_len]; omega)
      have hl := loop_efI d c (cellsOfBytes b) n t.toNat m.toNat (by omega) m.toNat 0 c' rest [] (by omega) (by simp only [List.length_cons] at u1; omega) rfl 1099511627775 (by omega)
      simp only [List.map_nil, List.nil_append, Int.natCast_zero] at hl
      revert hl
      generalize hR : wsI m.toNat rest = R
      intro hl
      cases R with
      | none =>
        obtain ⟨ws', hl⟩ := hl
        simp only [wHeap, wPtr, wTail, go_sem, Nat.reduceBEq, Nat.reduceAdd, Nat.reduceSub, Nat.reduceMul, Nat.reduceLeDiff, Nat.reduceEqDiff, Nat.reduceLT, Int.reduceNeg, Int.reduceAdd, Int.reduceSub, Int.reduceMul, Int.reduceLE, Int.reduceLT, Int.reduceEq, Int.reduceToNat, reduceCtorEq] at hl
        have hrd : readS (t :: m :: rest) = none := by simp only [readS, wsS_none hR]
        rw [hrd]
        refine ⟨.sl true 3 [], wHeap t.toNat ws', [], ?_, own_nil rfl, List.nodup_nil⟩
        rw [runD_eq find27 _ _ _ (by simp)]
        simp -implicitDefEqProofs (disch := omega) only [go_sem, Nat.reduceBEq, Nat.reduceAdd, Nat.reduceSub, Nat.reduceMul, Nat.reduceLeDiff, Nat.reduceEqDiff, Nat.reduceLT, Int.reduceNeg, Int.reduceAdd, Int.reduceSub, Int.reduceMul, Int.reduceLE, Int.reduceLT, Int.reduceEq, Int.reduceToNat, reduceCtorEq, hu, n0, l2, g9, g12, htk, Nat.add_sub_cancel, cob_cons, cob_len, entZ, IntWalk.i64_in]
        rw [hl]
        cases ws' <;> simp -implicitDefEqProofs (disch := omega) only [go_sem, Nat.reduceBEq, Nat.reduceAdd, Nat.reduceSub, Nat.reduceMul, Nat.reduceLeDiff, Nat.reduceEqDiff, Nat.reduceLT, Int.reduceNeg, Int.reduceAdd, Int.reduceSub, Int.reduceMul, Int.reduceLE, Int.reduceLT, Int.reduceEq, Int.reduceToNat, reduceCtorEq, wHeap, wPtr, wTail]
      | some q =>
        obtain ⟨vs, k⟩ := q
        obtain ⟨ws', hws, hl⟩ := hl
        have hlim := wsI_lim (by omega) hR t.toNat vs.isEmpty
        have back := back_iff (c := vs.isEmpty) hU hR
        have heU : entU ⟨(t.toNat : Int), ws'.isEmpty, ws'⟩ = entU ⟨t.toNat, vs.isEmpty, vs⟩ := by simp [entU, hws]
        have hE := entBytes_vs heU
        have hLim' : LimE [⟨(t.toNat : Int), ws'.isEmpty, ws'⟩] := ents_lim (by
          have := ents_len hlim
          simp only [List.map_cons, List.map_nil, ← heU] at this ⊢
          exact this)
        obtain ⟨w, tt, kE, hw⟩ := entB_call d (wHeap t.toNat ws') _ (wHeap_pure t.toNat ws') rfl hLim'
        have heq : ∀ a cc, retP (runD tab noExt (d + 10)) 76 [.sl a 1 (u8s (entBytes ⟨t.toNat, ws'.isEmpty, ws'⟩)), .sl cc 1 (cellsOfBytes (b.take n))] = some [.bool (decide (entBytes ⟨t.toNat, ws'.isEmpty, ws'⟩ = toI (b.take n)))] := fun a cc => by
          rw [cob_u8s]
          exact run_eqB (d + 9) a cc _ _ (by have := entBytes_len ⟨(t.toNat : Int), ws'.isEmpty, ws'⟩; omega)
        obtain ⟨v1, hc1, is1, q1, q2, q3⟩ := own_writesCopy (d + 7) ws'.isEmpty ws' (hLim'.fine.1.2 _ (List.mem_singleton.2 rfl))
        obtain ⟨v, hw2, js, k1, k2, k3, k4, k5, k6⟩ := own_call (h := wHeap t.toNat ws' ++ tt) (args := [wPtr ws']) (wHeap_pure1 t.toNat ws' tt) q1 q2 q3
        have htb : ∀ l : List Int, List.take l.length (u8s l) = u8s l := fun l => List.take_of_length_le (by rw [u8s_len]; omega)
        have gn : (n : Int) ≤ b.length := by omega
        have f0 : hw2[0]? = some (.box [.int .i64 0, .sl true 3 []]) := (k5 0 (by simp [wHeap])).trans rfl
        have f1 : hw2[1]? = some (.box [.int .i64 t.toNat, wPtr ws']) := (k5 1 (by simp [wHeap])).trans rfl
        have z1 : 1 < hw2.length := (List.getElem?_eq_some_iff.1 f1).1
        have z0 : 0 < hw2.length := by omega
        by_cases hq : entBytes ⟨(t.toNat : Int), ws'.isEmpty, ws'⟩ = toI (b.take n)
        · obtain ⟨b1, b2, b3⟩ := back.1 (hE ▸ hq)
          have hrd : readS (t :: m :: rest) = some ⟨t.toNat, vs.isEmpty, vs⟩ := by simp only [readS, b1]; rw [if_pos ⟨b2, b3⟩]
          rw [hrd]
          simp only [decide_eq_true hq] at heq
          refine ⟨v, (hw2.set 1 (.box [.int .i64 t.toNat, v])).set 0 (.box [.int .i64 t.toNat, v]), js, ?_, ?_, k3⟩
          rotate_left
          · rw [← hws]
            refine OwnF_frame _ k2 (fun j hj => ?_)
            have g1 := k4 j hj
            have g3 : 2 ≤ j := by simp only [wHeap, List.cons_append, List.length_cons] at g1; omega
            rw [List.getElem?_set_ne (by omega), List.getElem?_set_ne (by omega)]
          simp only [wHeap, wPtr, wTail, go_sem, Nat.reduceBEq, Nat.reduceAdd, Nat.reduceSub, Nat.reduceMul, Nat.reduceLeDiff, Nat.reduceEqDiff, Nat.reduceLT, Int.reduceNeg, Int.reduceAdd, Int.reduceSub, Int.reduceMul, Int.reduceLE, Int.reduceLT, Int.reduceEq, Int.reduceToNat, reduceCtorEq] at hl
          rw [runD_eq find27 _ _ _ (by simp)]
          simp -implicitDefEqProofs (disch := omega) only [go_sem, Nat.reduceBEq, Nat.reduceAdd, Nat.reduceSub, Nat.reduceMul, Nat.reduceLeDiff, Nat.reduceEqDiff, Nat.reduceLT, Int.reduceNeg, Int.reduceAdd, Int.reduceSub, Int.reduceMul, Int.reduceLE, Int.reduceLT, Int.reduceEq, Int.reduceToNat, reduceCtorEq, hu, n0, l2, g9, g12, htk, Nat.add_sub_cancel, cob_cons, cob_len, entZ, IntWalk.i64_in]
          rw [hl]
          clear hl
          have hv := own_cases k2
          clear k2
          rcases hw with ⟨cw, rfl, h0⟩ | ⟨id, st, clip, rfl, hbk⟩
          · rw [h0] at heq
            simp only [u8s_nil] at heq
            cases ws' <;> simp only [wHeap, wPtr, wTail, List.map_cons, List.cons_append, List.nil_append] at kE k1 f1 ⊢ <;> rcases hv with ⟨cx, rfl⟩ | ⟨idx, stx, mx, clipx, rfl⟩ <;> simp -implicitDefEqProofs (disch := first | omega | (simp only [List.length_set]; omega)) only [go_sem, Nat.reduceBEq, Nat.reduceAdd, Nat.reduceSub, Nat.reduceMul, Nat.reduceLeDiff, Nat.reduceEqDiff, Nat.reduceLT, Int.reduceNeg, Int.reduceAdd, Int.reduceSub, Int.reduceMul, Int.reduceLE, Int.reduceLT, Int.reduceEq, Int.reduceToNat, reduceCtorEq, evC_draw, evD27x1, E27x1, kE, heq, gn, cob_len, cob_take, k1, f0, f1, z0, z1, List.getElem?_set_self, List.getElem?_set_ne, List.length_set, List.set_set, okN]
          · have hte := htb (entBytes ⟨t.toNat, ws'.isEmpty, ws'⟩)
            cases ws' <;> simp only [wHeap, wPtr, wTail, List.map_cons, List.cons_append, List.nil_append] at kE hbk k1 f1 ⊢ <;> rcases hv with ⟨cx, rfl⟩ | ⟨idx, stx, mx, clipx, rfl⟩ <;> simp -implicitDefEqProofs (disch := first | omega | (simp only [List.length_set]; omega)) only [go_sem, Nat.reduceBEq, Nat.reduceAdd, Nat.reduceSub, Nat.reduceMul, Nat.reduceLeDiff, Nat.reduceEqDiff, Nat.reduceLT, Int.reduceNeg, Int.reduceAdd, Int.reduceSub, Int.reduceMul, Int.reduceLE, Int.reduceLT, Int.reduceEq, Int.reduceToNat, reduceCtorEq, evC_draw, evD27x1, E27x1, kE, heq, gn, cob_len, cob_take, hbk, hte, k1, f0, f1, z0, z1, List.getElem?_set_self, List.getElem?_set_ne, List.length_set, List.set_set, okN]
        · have hrd : readS (t :: m :: rest) = none := by
            simp only [readS]
            cases hS : wsS m.toNat rest with
            | none => rfl
            | some q =>
              have := wsS_wsI _ _ hS
              rw [hR] at this
              simp only [Option.some.injEq] at this
              subst this
              simp only
              rw [if_neg (fun h => hq (hE.trans (back.2 ⟨hS, h.1, h.2⟩)))]
          rw [hrd]
          simp only [decide_eq_false hq] at heq
          refine ⟨.sl true 3 [], wHeap t.toNat ws' ++ tt, [], ?_, own_nil rfl, List.nodup_nil⟩
          simp only [wHeap, wPtr, wTail, go_sem, Nat.reduceBEq, Nat.reduceAdd, Nat.reduceSub, Nat.reduceMul, Nat.reduceLeDiff, Nat.reduceEqDiff, Nat.reduceLT, Int.reduceNeg, Int.reduceAdd, Int.reduceSub, Int.reduceMul, Int.reduceLE, Int.reduceLT, Int.reduceEq, Int.reduceToNat, reduceCtorEq] at hl
          rw [runD_eq find27 _ _ _ (by simp)]
          simp -implicitDefEqProofs (disch := omega) only [go_sem, Nat.reduceBEq, Nat.reduceAdd, Nat.reduceSub, Nat.reduceMul, Nat.reduceLeDiff, Nat.reduceEqDiff, Nat.reduceLT, Int.reduceNeg, Int.reduceAdd, Int.reduceSub, Int.reduceMul, Int.reduceLE, Int.reduceLT, Int.reduceEq, Int.reduceToNat, reduceCtorEq, hu, n0, l2, g9, g12, htk, Nat.add_sub_cancel, cob_cons, cob_len, entZ, IntWalk.i64_in]
          rw [hl]
          clear hl
          rcases hw with ⟨cw, rfl, h0⟩ | ⟨id, st, clip, rfl, hbk⟩
          · rw [h0] at heq
            simp only [u8s_nil] at heq
            cases ws' <;> simp only [wHeap, wPtr, wTail, List.map_cons, List.cons_append, List.nil_append] at kE  ⊢ <;> simp -implicitDefEqProofs (disch := first | omega | (simp only [List.length_set]; omega)) only [go_sem, Nat.reduceBEq, Nat.reduceAdd, Nat.reduceSub, Nat.reduceMul, Nat.reduceLeDiff, Nat.reduceEqDiff, Nat.reduceLT, Int.reduceNeg, Int.reduceAdd, Int.reduceSub, Int.reduceMul, Int.reduceLE, Int.reduceLT, Int.reduceEq, Int.reduceToNat, reduceCtorEq, evC_draw, evD27x1, E27x1, kE, heq, gn, cob_len, cob_take, List.set_cons_zero]
          · have hte := htb (entBytes ⟨t.toNat, ws'.isEmpty, ws'⟩)
            cases ws' <;> simp only [wHeap, wPtr, wTail, List.map_cons, List.cons_append, List.nil_append] at kE hbk  ⊢ <;> simp -implicitDefEqProofs (disch := first | omega | (simp only [List.length_set]; omega)) only [go_sem, Nat.reduceBEq, Nat.reduceAdd, Nat.reduceSub, Nat.reduceMul, Nat.reduceLeDiff, Nat.reduceEqDiff, Nat.reduceLT, Int.reduceNeg, Int.reduceAdd, Int.reduceSub, Int.reduceMul, Int.reduceLE, Int.reduceLT, Int.reduceEq, Int.reduceToNat, reduceCtorEq, evC_draw, evD27x1, E27x1, kE, heq, gn, cob_len, cob_take, hbk, hte, List.set_cons_zero]
end Go.Proofs.Yteaojpfofifmnaa.PE
/- A list of bytes that comes in, as the evaluator reads it. -/
set_option linter.unusedVariables false
set_option linter.unusedSimpArgs false
namespace Go.Proofs.Yteaojpfofifmnaa.PE
open Go.RowKit

def IsRow (w : World) (a : Option Addr) (len cap : Nat) : Prop :=
  (a = none ∧ len = 0 ∧ cap = 0) ∨
  ∃ (x : Addr) (zs : List Int), a = some x ∧ len ≤ cap ∧ cap ≤ maxLen ∧ zs.length = cap ∧ (∀ i, i < zs.length → w.cell? (x.add i) = some (.int .u8 (zs.getD i 0))) ∧ ∀ n ∈ zs, (Lit.int .u8 n).wf = true

theorem IsRow.rep {w : World} {a : Option Addr} {len cap : Nat} (h : IsRow w a len cap) : ∃ l : List UInt8, l.length ≤ maxLen ∧ RepA w (fun b => b < w.heap.size) (.slice a len cap) (.sl false 1 (cellsOfBytes l)) := by
  rcases h with ⟨rfl, rfl, rfl⟩ | ⟨x, zs, rfl, h1, h2, h3, h4, h5⟩
  · exact ⟨[], Nat.zero_le _, rep_empty (by decide) (fun h => by cases h)⟩
  · have hb : ∀ i, i < zs.length → 0 ≤ zs.getD i 0 ∧ zs.getD i 0 < 256 := fun i hi => by
      have := h5 (zs.getD i 0) (by rw [List.getD_eq_getElem?_getD, List.getElem?_eq_getElem hi]; exact List.getElem_mem hi)
      simp only [Lit.wf, decide_eq_true_eq] at this
      have h1 : IntKind.u8.min = 0 := rfl
      have h2 : IntKind.u8.max = 255 := rfl
      simp only [Bool.and_eq_true, decide_eq_true_eq, h1, h2] at this
      omega
    refine ⟨(zs.take len).map fun z => UInt8.ofNat z.toNat, by simp; omega, ?_⟩
    refine Rep.sl (some x) len cap false _ 1 (fun j _ => .int .u8 (zs.getD j 0)) (by simp [cellsOfBytes]; omega) h1 (fun h => by cases h) (by decide) (fun y hy => ?_) (fun hn => ?_) (fun j c y z hy hz => ?_)
    · simp only [cellsOfBytes, List.mem_map] at hy
      obtain ⟨b, _, rfl⟩ := hy
      rfl
    · obtain ⟨g, o, sp⟩ := x
      have h0 := h4 0 (by omega)
      have hsp : sp = none := by
        simp only [Addr.add, if_true] at h0
        unfold World.cell? at h0
        cases sp with
        | none => rfl
        | some s => simp at h0; split at h0 <;> cases h0
      subst hsp
      refine ⟨g, o, rfl, ?_, fun j c y z hy hz => ?_⟩
      · simp only [Addr.add, if_true] at h0
        unfold World.cell? at h0
        rcases Nat.lt_or_ge g w.heap.size with hg | hg
        · exact hg
        · rw [Array.getElem?_eq_none hg] at h0; cases h0
      · have hj : j < ((zs.take len).map fun z => UInt8.ofNat z.toNat).length := by
          have := (List.getElem?_eq_some_iff.1 hy).1
          simpa [cellsOfBytes] using this
        simp only [List.length_map, List.length_take] at hj
        simp only [cellsOfBytes, List.getElem?_map] at hy
        obtain ⟨b, _, rfl⟩ := Option.map_eq_some_iff.1 hy
        have hc : c = 0 := by
          have := (List.getElem?_eq_some_iff.1 hz).1
          simp at this
          omega
        subst hc
        have := h4 j (by omega)
        rw [add0] at this
        simpa using this
    · have hj : j < zs.length := by
        have := (List.getElem?_eq_some_iff.1 hy).1
        simp [cellsOfBytes] at this
        omega
      have hjl : j < len := by
        have := (List.getElem?_eq_some_iff.1 hy).1
        simp [cellsOfBytes] at this
        omega
      have hbj := hb j hj
      have hc : c = 0 := by
        simp only [cellsOfBytes, List.getElem?_map] at hy
        obtain ⟨b, _, rfl⟩ := Option.map_eq_some_iff.1 hy
        have := (List.getElem?_eq_some_iff.1 hz).1
        simp at this
        omega
      subst hc
      rw [List.getD_eq_getElem?_getD, List.getElem?_eq_getElem hj] at hbj
      simp [cellsOfBytes, List.getElem?_take_of_lt hjl, List.getElem?_eq_getElem hj] at hy
      subst hy
      simp at hz
      subst hz
      simp only [Option.getD_some] at hbj
      have e : ((UInt8.ofNat (zs[j]).toNat).toNat : Int) = zs[j] := by
        simp
        omega
      simp only [List.getD_eq_getElem?_getD, List.getElem?_eq_getElem hj, Option.getD_some]
      rw [show max zs[j] 0 % 256 = zs[j] by omega]
      exact .int _ _
end Go.Proofs.Yteaojpfofifmnaa.PE
/- Arguments of any plain kind, as they are read: values of the evaluator. -/
set_option linter.unusedVariables false
set_option linter.unusedSimpArgs false
namespace Go.Proofs.Yteaojpfofifmnaa.PE
open Go.RowKit

mutual
def tyF (P : Program) : Nat → TypeId → Fd → Bool
  | 0, _, _ => false
  | n + 1, t, .int k => match P.underlying t with
    | some (.int k') => decide (k' = k)
    | _ => false
  | n + 1, t, .bool => match P.underlying t with
    | some .bool => true
    | _ => false
  | n + 1, t, .str => match P.underlying t with
    | some .string => true
    | _ => false
  | n + 1, t, .sub fs => match P.underlying t with
    | some (.slice e) => decide (P.cellsOf e = fs.length) && decide (0 < fs.length) && tyR P n e fs
    | _ => false
def tyR (P : Program) : Nat → TypeId → List Fd → Bool
  | 0, _, _ => false
  | n + 1, t, fs => match P.underlying t with
    | some (.struct flds) => decide (P.cellsOf t = fs.length) && tyS P n flds.toList 0 fs
    | _ => match fs with
      | [f] => tyF P n t f
      | _ => false
def tyS (P : Program) : Nat → List Field → Nat → List Fd → Bool
  | 0, _, _, _ => false
  | n + 1, [], _, fs => fs.isEmpty
  | n + 1, fl :: r, off, fs => decide (fl.offset = off) && tyR P n fl.type (fs.take (P.cellsOf fl.type)) && decide (P.cellsOf fl.type ≤ fs.length) && tyS P n r (off + P.cellsOf fl.type) (fs.drop (P.cellsOf fl.type))
end

def B63 : Nat := 9223372036854775807
section
variable {H : Type} {enc : TypeId × Value → H} {P : Program} {w : World} {base : Nat} {spare : Nat → Bool} {held : Bool}

/-- Cells and what they are. -/
def Got (w : World) (fs : List Fd) (cs : List Value) : Prop := ∃ (ps : List V) (us : List U), PurR fs ps us ∧ LenR B63 B63 fs us ∧ ps.length = cs.length ∧ ∀ (i : Nat) (y : V), ps[i]? = some y → ∃ u, cs[i]? = some u ∧ Rep w (fun b => b < w.heap.size) u y
theorem Got.one {f : Fd} {v : Value} {p : V} {u : U} (h1 : PurF f p u) (h2 : LenF B63 B63 f u) (h3 : Rep w (fun b => b < w.heap.size) v p) : Got w [f] [v] := by
  refine ⟨[p], [u], by simp only [PurR]; exact ⟨p, [], u, [], rfl, rfl, h1, rfl, rfl⟩, by simp only [LenR]; exact ⟨h2, trivial⟩, rfl, fun i y hy => ?_⟩
  cases i with
  | zero => simp at hy; subst hy; exact ⟨v, rfl, h3⟩
  | succ i => simp at hy
theorem PurR_len : ∀ {fs : List Fd} {ps : List V} {us : List U}, PurR fs ps us → ps.length = fs.length ∧ us.length = fs.length
  | [], _, _, h => by simp only [PurR] at h; rw [h.1, h.2]; exact ⟨rfl, rfl⟩
  | f :: fs, _, _, h => by
    simp only [PurR] at h
    obtain ⟨v, c', u, x', rfl, rfl, _, h2⟩ := h
    have := PurR_len h2
    simp [this.1, this.2]
theorem PurR_app : ∀ {f1 f2 : List Fd} {p1 p2 : List V} {u1 u2 : List U}, PurR f1 p1 u1 → PurR f2 p2 u2 → PurR (f1 ++ f2) (p1 ++ p2) (u1 ++ u2)
  | [], _, _, _, _, _, h, h2 => by simp only [PurR] at h; rw [h.1, h.2]; exact h2
  | f :: f1, f2, _, p2, _, u2, h, h2 => by
    simp only [PurR] at h
    obtain ⟨v, c', u, x', rfl, rfl, h3, h4⟩ := h
    show PurR (f :: (f1 ++ f2)) _ _
    simp only [PurR]
    exact ⟨v, c' ++ p2, u, x' ++ u2, rfl, rfl, h3, PurR_app h4 h2⟩
theorem LenR_app {n m : Nat} : ∀ {f1 f2 : List Fd} {u1 u2 : List U}, u1.length = f1.length → LenR n m f1 u1 → LenR n m f2 u2 → LenR n m (f1 ++ f2) (u1 ++ u2)
  | [], _, u1, _, hl, _, h2 => by
    have : u1 = [] := List.eq_nil_of_length_eq_zero hl
    subst this
    exact h2
  | f :: f1, f2, u :: u1, u2, hl, h, h2 => by
    show LenR n m (f :: (f1 ++ f2)) (u :: (u1 ++ u2))
    simp only [LenR] at h ⊢
    exact ⟨h.1, LenR_app (by simpa using hl) h.2 h2⟩
  | _ :: _, _, [], _, hl, _, _ => by simp at hl
theorem Got.app {f1 f2 : List Fd} {c1 c2 : List Value} (h1 : Got w f1 c1) (h2 : Got w f2 c2) : Got w (f1 ++ f2) (c1 ++ c2) := by
  obtain ⟨p1, u1, a1, a2, a3, a4⟩ := h1
  obtain ⟨p2, u2, b1, b2, b3, b4⟩ := h2
  refine ⟨p1 ++ p2, u1 ++ u2, PurR_app a1 b1, LenR_app (PurR_len a1).2 a2 b2, by simp [a3, b3], fun i y hy => ?_⟩
  rcases Nat.lt_or_ge i p1.length with hi | hi
  · rw [List.getElem?_append_left hi] at hy
    obtain ⟨u, hu, hr⟩ := a4 i y hy
    exact ⟨u, by rw [List.getElem?_append_left (by omega)]; exact hu, hr⟩
  · rw [List.getElem?_append_right hi] at hy
    obtain ⟨u, hu, hr⟩ := b4 _ y hy
    exact ⟨u, by rw [List.getElem?_append_right (by omega), ← a3]; exact hu, hr⟩

theorem plain_addr {a : Addr} {v : Value} (h : w.cell? a = some v) : ∃ g o, a = ⟨g, o, none⟩ ∧ g < w.heap.size := by
  obtain ⟨g, o, sp⟩ := a
  unfold World.cell? at h
  have hg : g < w.heap.size := by
    rcases Nat.lt_or_ge g w.heap.size with h1 | h1
    · exact h1
    · rw [Array.getElem?_eq_none h1] at h; cases sp <;> simp at h
  cases sp with
  | none => exact ⟨g, o, rfl, hg⟩
  | some s => simp at h; split at h <;> cases h

/-- A slice out of its elements. -/
theorem got_slice {fs : List Fd} {a : Addr} {len cap : Nat} (hpos : 0 < fs.length) (hl : len ≤ cap) (hm : cap ≤ maxLen) (hx : ∀ i, i < len → ∃ cs', w.cells? base (a.add (i * fs.length)) fs.length = some cs' ∧ Got w fs cs') :
    Got w [.sub fs] [.slice (some a) len cap] := by
  have hx' : ∀ i, i < len → ∃ q : List V × List U × List Value, w.cells? base (a.add (i * fs.length)) fs.length = some q.2.2 ∧ PurR fs q.1 q.2.1 ∧ LenR B63 B63 fs q.2.1 ∧ q.1.length = q.2.2.length ∧ ∀ (j : Nat) (y : V), q.1[j]? = some y → ∃ u, q.2.2[j]? = some u ∧ Rep w (fun b => b < w.heap.size) u y := by
    intro i hi
    obtain ⟨cs', h1, ps, us, h2, h3, h4, h5⟩ := hx i hi
    exact ⟨(ps, us, cs'), h1, h2, h3, h4, h5⟩
  obtain ⟨q, hq⟩ := Go.Deep.choose_lt hx'
  have hzip : ∀ (n : Nat), n ≤ len → Zip2 (PurR fs) ((List.range n).map fun i => (q i).1) ((List.range n).map fun i => (q i).2.1) ∧ AllU (LenR B63 B63 fs) ((List.range n).map fun i => (q i).2.1) := by
    have z2 : ∀ {l1 : List (List V)} {l2 : List (List U)} {c : List V} {x : List U}, Zip2 (PurR fs) l1 l2 → PurR fs c x → Zip2 (PurR fs) (l1 ++ [c]) (l2 ++ [x]) := by
      intro l1
      induction l1 with
      | nil => intro l2 c x h hc; cases l2 with
        | nil => exact ⟨hc, trivial⟩
        | cons b bs => exact h.elim
      | cons a l1 ih => intro l2 c x h hc; cases l2 with
        | nil => exact h.elim
        | cons b bs => exact ⟨h.1, ih h.2 hc⟩
    have a2 : ∀ {l2 : List (List U)} {x : List U}, AllU (LenR B63 B63 fs) l2 → LenR B63 B63 fs x → AllU (LenR B63 B63 fs) (l2 ++ [x]) := by
      intro l2
      induction l2 with
      | nil => intro x _ hx; exact ⟨hx, trivial⟩
      | cons b bs ih => intro x h hx; exact ⟨h.1, ih h.2 hx⟩
    intro n
    induction n with
    | zero => intro _; exact ⟨trivial, trivial⟩
    | succ n ih =>
      intro hn
      obtain ⟨i1, i2⟩ := ih (by omega)
      obtain ⟨_, b1, b2, _⟩ := hq n (by omega)
      rw [List.range_succ, List.map_append, List.map_append]
      exact ⟨z2 i1 b1, a2 i2 b2⟩
  obtain ⟨z1, z2⟩ := hzip len (Nat.le_refl _)
  have hml : maxLen = 9223372036854775807 := by decide
  refine Got.one (p := .sl false fs.length ((List.range len).map fun i => (q i).1)) (u := .sub ((List.range len).map fun i => (q i).2.1)) ?_ ?_ ?_
  · simp only [PurF]
    exact ⟨false, _, _, rfl, rfl, z1⟩
  · simp only [LenF, List.length_map, List.length_range]
    exact ⟨by unfold B63; omega, z2⟩
  · have hlen : ∀ j x, ((List.range len).map fun i => (q i).1)[j]? = some x → j < len ∧ x = (q j).1 := by
      intro j x hx
      rw [List.getElem?_map] at hx
      obtain ⟨k, hk, rfl⟩ := Option.map_eq_some_iff.1 hx
      have hj : j < len := by
        have := (List.getElem?_eq_some_iff.1 hk).1
        simpa using this
      rw [List.getElem?_range hj] at hk
      injection hk with hk
      subst hk
      exact ⟨hj, rfl⟩
    have hcell : ∀ (j c : Nat) (y : V), j < len → (q j).1[c]? = some y → ∃ u, (q j).2.2[c]? = some u ∧ w.cell? ((a.add (j * fs.length)).add c) = some u ∧ Rep w (fun b => b < w.heap.size) u y := by
      intro j c y hj hy
      obtain ⟨h1, h2, h3, h4, h5⟩ := hq j hj
      obtain ⟨_, h6, h7⟩ := World.cells?_some h1
      obtain ⟨u, hu, hr⟩ := h5 c y hy
      have hc : c < fs.length := by
        have := (List.getElem?_eq_some_iff.1 hu).1
        omega
      exact ⟨u, hu, (h7 c hc).trans hu, hr⟩
    refine Rep.sl (some a) len cap false _ fs.length (fun j c => ((q j).2.2[c]?).getD undef) (by simp) hl (fun e => by cases e) hpos (fun x hx => ?_) (fun hn => ?_) (fun j c x y hx hy => ?_)
    · obtain ⟨j, hj⟩ := List.getElem?_of_mem hx
      obtain ⟨h1, rfl⟩ := hlen j x hj
      exact (PurR_len (hq j h1).2.1).1
    · have h0 := (PurR_len (hq 0 hn).2.1).1
      have hy0 : (q 0).1[0]? = some (q 0).1[0] := List.getElem?_eq_getElem (by omega)
      obtain ⟨u0, _, c0, _⟩ := hcell 0 0 _ hn hy0
      rw [Nat.zero_mul] at c0
      have ha : (a.add 0).add 0 = a := by simp [Addr.add]
      rw [ha] at c0
      obtain ⟨g, o, rfl, hg⟩ := plain_addr c0
      refine ⟨g, o, rfl, hg, fun j c x y hx hy => ?_⟩
      obtain ⟨h1, rfl⟩ := hlen j x hx
      obtain ⟨u, hu, hc, _⟩ := hcell j c y h1 hy
      rw [add0, add0] at hc
      rw [hc, hu]
      rfl
    · obtain ⟨h1, rfl⟩ := hlen j x hx
      obtain ⟨u, hu, _, hr⟩ := hcell j c y h1 hy
      show Rep w _ (((q j).2.2[c]?).getD undef) y
      rw [hu]
      exact hr

mutual
theorem gotF : ∀ (n : Nat) {t : TypeId} {f : Fd} {fuel : Nat} {cs : List Value} {x : DataW H × List MemPlace}, tyF P n t f = true → DataW.trod enc P w base spare held fuel t cs = some x → Got w [f] cs
  | 0, _, _, _, _, _, ht, _ => by simp [tyF] at ht
  | n + 1, t, .int k, fuel, cs, x, ht, h => by
    simp only [tyF] at ht
    split at ht
    · rename_i k' hu
      simp only [decide_eq_true_eq] at ht
      subst ht
      obtain ⟨m, rfl, _, _⟩ := DataW.trod_int hu h
      exact Got.one (p := .int k' m) (u := .int m) (by simp only [PurF]; exact ⟨m, rfl, rfl⟩) (by simp [LenF]) (.int _ _)
    · cases ht
  | n + 1, t, .bool, fuel, cs, x, ht, h => by
    simp only [tyF] at ht
    split at ht
    · rename_i hu
      obtain ⟨m, rfl, _⟩ := DataW.trod_bool hu h
      exact Got.one (p := .bool m) (u := .bool m) (by simp only [PurF]; exact ⟨m, rfl, rfl⟩) (by simp [LenF]) (.bool _)
    · cases ht
  | n + 1, t, .str, fuel, cs, x, ht, h => by
    simp only [tyF] at ht
    split at ht
    · rename_i hu
      obtain ⟨m, rfl, _, hm⟩ := DataW.trod_string hu h
      have hml : maxLen = 9223372036854775807 := by decide
      exact Got.one (p := .str m) (u := .str m) (by simp only [PurF]; exact ⟨m, rfl, rfl⟩) (by simp only [LenF]; unfold B63; omega) (.str _)
    · cases ht
  | n + 1, t, .sub fs, fuel, cs, x, ht, h => by
    simp only [tyF] at ht
    split at ht
    · rename_i e hu
      simp only [Bool.and_eq_true, decide_eq_true_eq] at ht
      obtain ⟨⟨hc, hpos⟩, hr⟩ := ht
      rcases Go.Deep.open_slice hu h with ⟨rfl, _⟩ | ⟨a, len, cap, m, k, D, Pl, rfl, hb, hl, hm, hmm, _, hx⟩
      · exact Got.one (p := .sl true fs.length []) (u := .sub []) (by rw [PurF]; exact ⟨true, [], [], rfl, rfl, trivial⟩) (by simp only [LenF]; exact ⟨Nat.zero_le _, trivial⟩) (rep_empty hpos (fun _ => rfl))
      · refine got_slice (base := base) hpos hl hm (fun i hi => ?_)
        obtain ⟨cs', h1, h2⟩ := hx i (by rw [hmm]; split <;> omega)
        rw [hc] at h1
        exact ⟨cs', h1, gotR n hr h2⟩
    · cases ht
theorem gotR : ∀ (n : Nat) {t : TypeId} {fs : List Fd} {fuel : Nat} {cs : List Value} {x : DataW H × List MemPlace}, tyR P n t fs = true → DataW.trod enc P w base spare held fuel t cs = some x → Got w fs cs
  | 0, _, _, _, _, _, ht, _ => by simp [tyR] at ht
  | n + 1, t, fs, fuel, cs, x, ht, h => by
    simp only [tyR] at ht
    split at ht
    · rename_i flds hu
      simp only [Bool.and_eq_true, decide_eq_true_eq] at ht
      obtain ⟨xs, k, _, _, hcl, hxl, hf⟩ := DataW.trod_struct hu h
      refine gotS n (cs := cs) (off := 0) (fuel := k) ht.2 (by omega) (fun i fl hi => ?_)
      have hlt : i < xs.length := by
        have := (List.getElem?_eq_some_iff.1 hi).1
        simp at this
        omega
      rw [Array.getElem?_toList] at hi
      exact ⟨xs[i], by rw [hf i fl hi, List.getElem?_eq_getElem hlt]⟩
    · split at ht
      · rename_i f
        exact gotF n ht h
      · cases ht
theorem gotS : ∀ (n : Nat) {flds : List Field} {off : Nat} {fs : List Fd} {fuel : Nat} {cs : List Value}, tyS P n flds off fs = true → cs.length = off + fs.length → (∀ (i : Nat) (fl : Field), flds[i]? = some fl → ∃ x, DataW.trod enc P w base spare held fuel fl.type ((cs.drop fl.offset).take (P.cellsOf fl.type)) = some x) → Got w fs (cs.drop off)
  | 0, _, _, _, _, _, ht, _, _ => by simp [tyS] at ht
  | n + 1, [], off, fs, fuel, cs, ht, hl, _ => by
    simp only [tyS, List.isEmpty_iff] at ht
    subst ht
    rw [List.drop_of_length_le (by simp at hl; omega)]
    exact ⟨[], [], by simp [PurR], by simp [LenR], rfl, fun i y hy => by simp at hy⟩
  | n + 1, fl :: r, off, fs, fuel, cs, ht, hl, hx => by
    simp only [tyS, Bool.and_eq_true, decide_eq_true_eq] at ht
    obtain ⟨⟨⟨ho, h1⟩, hle⟩, h2⟩ := ht
    obtain ⟨x, hx0⟩ := hx 0 fl rfl
    rw [ho] at hx0
    have g1 := gotR n h1 hx0
    have g2 := gotS n (cs := cs) (off := off + P.cellsOf fl.type) h2 (by rw [List.length_drop]; omega) (fun i f hi => hx (i + 1) f (by simpa using hi))
    have g := g1.app g2
    rw [List.take_append_drop] at g
    rw [← List.drop_drop, List.take_append_drop] at g
    exact g
end
end
end Go.Proofs.Yteaojpfofifmnaa.PE
/- A list of bytes that comes in, as a tree. -/
set_option linter.unusedSimpArgs false
set_option linter.unusedVariables false
namespace Go.Proofs.Yteaojpfofifmnaa.PE
open Go.RowKit

def bsU (l : List UInt8) : List (List U) := l.map fun b => [U.int b.toNat]
end Go.Proofs.Yteaojpfofifmnaa.PE
/- Entries read: what both functions come to, for the exact statement. -/
set_option linter.unusedSimpArgs false
set_option linter.unusedVariables false
set_option maxHeartbeats 4000000
namespace Go.Proofs.Yteaojpfofifmnaa.PE
open Go.RowKit

end Go.Proofs.Yteaojpfofifmnaa.PE
/- Logs read: the reference. -/
set_option linter.unusedSimpArgs false
set_option linter.unusedVariables false
set_option maxHeartbeats 8000000
set_option maxRecDepth 20000
namespace Go.Proofs.Yteaojpfofifmnaa.PE
open Go.RowKit

/-- The entries that bytes begin with, behind others, as long as all are a log. -/
def lFrom : Nat → List Ent → List UInt8 → List Ent
  | 0, out, _ => out
  | f + 1, out, b => if (eFrom b).2 = 0 then out else if logOk (out ++ [(eFrom b).1]) = true then lFrom f (out ++ [(eFrom b).1]) (b.drop (eFrom b).2) else out
theorem lim_snoc {out : List Ent} (h : LimE out) (hl : out.length ≤ 12) {e : Ent} (he : LimE [e]) : LimE (out ++ [e]) := by
  refine ⟨by simp; omega, fun x hx => ?_⟩
  rcases List.mem_append.1 hx with hx | hx
  · exact h.2 x hx
  · exact he.2 x hx
theorem lFrom_nil (f : Nat) (out : List Ent) : lFrom f out [] = out := by cases f <;> rfl
-- find33
end Go.Proofs.Yteaojpfofifmnaa.PE
/- Logs read: both functions. -/
set_option linter.unusedSimpArgs false
set_option linter.unusedVariables false
set_option maxHeartbeats 8000000
set_option maxRecDepth 20000
namespace Go.Proofs.Yteaojpfofifmnaa.PE
open Go.RowKit

-- find33
theorem Grown.more {fs : List Fd} {id k st : Nat} {h h1 h3 : Heap} {done : List (List V)} {xs : List (List U)} {cells : List V} {x : List U} {js : List Nat} (g : Grown fs id h done xs) (own : OwnR h1 fs cells x js)
    (keep : ∀ j, j < h.length → h1[j]? = h[j]?) (hlen : h.length ≤ h1.length) (e3 : ∀ j, j < h1.length → h3[j]? = h1[j]?) (hb : h3[k]? = some (blkOf fs st (done ++ [cells]))) : ∃ ids, OwnF h3 (.sub fs) (.ref k st 0 (done ++ [cells]).length false) (.sub (xs ++ [x])) ids := by
  obtain ⟨_, ids, z, _⟩ := g.frame (h1 := h3) (fun j hj => (e3 j (by omega)).trans (keep j hj))
  refine ⟨k :: (ids ++ js), ?_⟩
  simp only [OwnF]
  exact ⟨xs ++ [x], rfl, .inr ⟨k, st, false, done ++ [cells], ids ++ js, rfl, hb, rfl, Zip3_app z (Zip3_one (OwnR_frame fs own (fun j hj => e3 j (OwnR_lt fs own j hj))))⟩⟩
-- find29
theorem clipk_Ent (d : Nat) (h : Heap) (m : Nat) (done : List (List V)) (hn : h[0]? = some (.nest m 2 done)) : callX (runD tab noExt (d + 1)) h 2 79 [.ref 0 m 0 m false] = some (.ref 0 m 0 m true, h) := by
  simp only [callX, callK]
  rw [runD_eq find79 _ _ _ (by simp)]
  simp -implicitDefEqProofs (disch := omega) only [go_sem, Nat.reduceBEq, Nat.reduceAdd, Nat.reduceSub, Nat.reduceMul, Nat.reduceLeDiff, Nat.reduceEqDiff, Nat.reduceLT, Int.reduceNeg, Int.reduceAdd, Int.reduceSub, Int.reduceMul, Int.reduceLE, Int.reduceLT, Int.reduceEq, Int.reduceToNat, reduceCtorEq, Bool.true_or, resOk, hn]
theorem loop_lfI (d : Nat) : ∀ (f : Nat) (out : List Ent) (c : Bool) (b : List UInt8) (h : Heap) (done : List (List V)), out.length + f = 13 → b.length < 1099511627776 → LimE out → logOk out = true → Grown fdEntry 0 h done (out.map entU) → ∀ K, f ≤ K →
    ∃ v h' ids, LoopK (runD tab noExt (d + 11)) (drawI (runD tab noExt (d + 11))) [0, 3] [2] L29x0 K [(0, .sl c 1 (cellsOfBytes b)), (3, .ref 0 done.length 0 done.length false)] h = some (.ret, [(2, v)], h') ∧ OwnF h' (.sub fdEntry) v (.sub ((lFrom f out b).map entU)) ids ∧ ids.Nodup
  | 0, out, c, b, h, done, hf, hb, h1, h2, g, K, hK => by
    have := log_len h2
    omega
  | f + 1, out, c, b, h, done, hf, hb, h1, h2, g, K, hK => by
    obtain ⟨K, rfl⟩ : ∃ k', K = k' + 1 := ⟨K - 1, by omega⟩
    have hl12 := log_len h2
    have glen := g.len
    rw [List.length_map] at glen
    obtain ⟨pv, hc, is0, q1, q2, q3⟩ := own_eFrom d c b hb
    obtain ⟨cells, hp, js, kE, k2, k3, k4, k5, k6⟩ := own_callAS (h := h) (args := [.sl c 1 (cellsOfBytes b)]) (by simp only [pureDAs, mapO, pureDA, pureD]) q1 (ownR_mk_Entry (a0 := (eFrom b).1.time) q2) q3 (by rcases own_cases q2 with ⟨cx, rfl⟩ | ⟨id, st, m, clip, rfl⟩ <;> rfl) rfl
    obtain ⟨a0, p1, y1, i1, rfl, hx, rfl, k2'⟩ := ownR_Entry k2
    simp only [List.cons.injEq, U.int.injEq, U.sub.injEq, and_true] at hx
    obtain ⟨rfl, rfl⟩ := hx
    have hw := own_cases k2'
    have hlt := g.lt
    have hn1 : hp[0]? = some (.nest done.length 2 done) := (k5 0 hlt).trans (g.nest (by rfl))
    have hp0 : 0 < hp.length := by omega
    have hn2 : ∀ t, (hp ++ t)[0]? = some (.nest done.length 2 done) := fun t => (List.getElem?_append_left hp0).trans hn1
    have hcl : ∀ x, callX (runD tab noExt (d + 11)) (hp ++ [x]) 2 79 [.ref 0 done.length 0 done.length false] = some (.ref 0 done.length 0 done.length true, hp ++ [x]) := fun x => clipk_Ent (d + 10) _ _ _ (hn2 _)
    have hcl2 : ∀ x y, callX (runD tab noExt (d + 11)) (hp ++ [x, y]) 2 79 [.ref 0 done.length 0 done.length false] = some (.ref 0 done.length 0 done.length true, hp ++ [x, y]) := fun x y => clipk_Ent (d + 10) _ _ _ (hn2 _)
    have keep : ∀ t j, j < h.length → (hp ++ t)[j]? = h[j]? := fun t j hj => by rw [List.getElem?_append_left (by omega), k5 j hj]
    have hsm : done.length + 1 < 4294967296 := by omega
    simp only [lFrom]
    by_cases hn : (eFrom b).2 = 0
    · have g3 : ((eFrom b).2 : Int) = 0 := by omega
      rw [if_pos hn]
      obtain ⟨ids, o1, o2⟩ := (g.frame (keep [.box [.int .i64 (eFrom b).1.time, p1]])).own (n := done.length) (clip := true) rfl
      refine ⟨_, _, ids, ?_, o1, o2⟩
      rw [LoopK_eq]
      rcases hw with ⟨c', rfl⟩ | ⟨id, st, n, clip, rfl⟩ <;> simp -implicitDefEqProofs (disch := omega) only [go_sem, Nat.reduceBEq, Nat.reduceAdd, Nat.reduceSub, Nat.reduceMul, Nat.reduceLeDiff, Nat.reduceEqDiff, Nat.reduceLT, Int.reduceNeg, Int.reduceAdd, Int.reduceSub, Int.reduceMul, Int.reduceLE, Int.reduceLT, Int.reduceEq, Int.reduceToNat, reduceCtorEq, evL29x0, B29x0, evC_draw, evD29x0, E29x0, kE, g3, hn2, hcl, at_end, set_end, List.getElem?_set_self, List.set_cons_zero]
    · have g3 : (((eFrom b).2 : Int) = 0) = False := eq_false (by omega)
      have hle := eFrom_le b
      rw [if_neg hn]
      have hlim := lim_snoc h1 hl12 (eFrom_lim b)
      have hbk : (hp ++ [Blk.box [.int .i64 (eFrom b).1.time, p1], .nest 0 2 (done ++ [[.int .i64 (eFrom b).1.time, p1]])])[hp.length + 1]? = some (blkOf fdEntry 0 (done ++ [[.int .i64 (eFrom b).1.time, p1]])) := by rw [at_end_add]; rfl
      obtain ⟨ids, o1⟩ := g.more k2 k5 k6 (fun j hj => List.getElem?_append_left hj) hbk
      obtain ⟨q, e1, e2⟩ := OwnF_pure (.sub fdEntry) 6 (by decide) o1
      have e3 := pureDA_of o1 e1
      rw [show out.map entU ++ [[U.int (eFrom b).1.time, U.sub ((eFrom b).1.ws.map wrU)]] = (out ++ [(eFrom b).1]).map entU by rw [List.map_append]; rfl] at e2
      obtain ⟨cl, l2, rfl, hl2⟩ := ents_each e2
      have hlim2 : LimE l2 := ents_lim (by rw [← hl2]; exact ents_len hlim)
      obtain ⟨_, x2, x3⟩ := hlim2.fine
      have kL := call_bool (h := hp ++ [Blk.box [.int .i64 (eFrom b).1.time, p1], .nest 0 2 (done ++ [[.int .i64 (eFrom b).1.time, p1]])]) (args := [V.ref (hp.length + 1) 0 0 (done ++ [[.int .i64 (eFrom b).1.time, p1]]).length false]) (by simp only [pureDAs, mapO, e3]) (run_logI (d + 2) cl l2 x3 x2)
      rw [← logOk_vs hl2] at kL
      simp only [List.length_append, List.length_cons, List.length_nil, Nat.zero_add] at kL
      cases ho : logOk (out ++ [(eFrom b).1])
      · rw [ho] at kL
        obtain ⟨ids, o1, o2⟩ := (g.frame (keep [.box [.int .i64 (eFrom b).1.time, p1], .nest 0 2 (done ++ [[.int .i64 (eFrom b).1.time, p1]])])).own (n := done.length) (clip := true) rfl
        simp only [Bool.false_eq_true, if_false]
        refine ⟨_, _, ids, ?_, o1, o2⟩
        rw [LoopK_eq]
        rcases hw with ⟨c', rfl⟩ | ⟨id, st, n, clip, rfl⟩ <;> simp -implicitDefEqProofs (disch := omega) only [go_sem, Nat.reduceBEq, Nat.reduceAdd, Nat.reduceSub, Nat.reduceMul, Nat.reduceLeDiff, Nat.reduceEqDiff, Nat.reduceLT, Int.reduceNeg, Int.reduceAdd, Int.reduceSub, Int.reduceMul, Int.reduceLE, Int.reduceLT, Int.reduceEq, Int.reduceToNat, reduceCtorEq, evL29x0, B29x0, evC_draw, evD29x0, E29x0, kE, kL, g3, hn2, hcl, hcl2, hsm, at_end, set_end, List.getElem?_set_self, List.set_cons_zero, elemsN, elemN, listN, appendN, okN, small]
      · rw [ho] at kL
        simp only [if_true]
        have hle' : (eFrom b).2 ≤ b.length := hle
        have htk : List.take (b.length - (eFrom b).2) (cellsOfBytes (b.drop (eFrom b).2)) = cellsOfBytes (b.drop (eFrom b).2) := List.take_of_length_le (by rw [cob_len, List.length_drop]; omega)
        have g4 : ((eFrom b).2 : Int) ≤ b.length := by omega
        have g' : Grown fdEntry 0 ((hp ++ [Blk.box [V.int .i64 (eFrom b).1.time, p1], Blk.nest 0 2 (done ++ [[V.int .i64 (eFrom b).1.time, p1]])]).set 0 (Blk.nest (done.length + 1) 2 (done ++ [[V.int .i64 (eFrom b).1.time, p1]]))) (done ++ [[V.int .i64 (eFrom b).1.time, p1]]) ((out ++ [(eFrom b).1]).map entU) := by
          rw [List.map_append]
          exact g.add (h1 := hp ++ [Blk.box [V.int .i64 (eFrom b).1.time, p1], Blk.nest 0 2 (done ++ [[V.int .i64 (eFrom b).1.time, p1]])]) (OwnR_frame fdEntry k2 (fun j hj => List.getElem?_append_left (OwnR_lt fdEntry k2 j hj))) k3 k4 (keep _) rfl
        obtain ⟨v, h', ids, r1, r2, r3⟩ := loop_lfI d f (out ++ [(eFrom b).1]) c (b.drop (eFrom b).2) _ _ (by simp; omega) (by rw [List.length_drop]; omega) hlim ho g' K (by omega)
        refine ⟨v, h', ids, ?_, r2, r3⟩
        rw [← r1, LoopK_eq]
        rcases hw with ⟨c', rfl⟩ | ⟨id, st, n, clip, rfl⟩ <;> simp -implicitDefEqProofs (disch := omega) only [go_sem, Nat.reduceBEq, Nat.reduceAdd, Nat.reduceSub, Nat.reduceMul, Nat.reduceLeDiff, Nat.reduceEqDiff, Nat.reduceLT, Int.reduceNeg, Int.reduceAdd, Int.reduceSub, Int.reduceMul, Int.reduceLE, Int.reduceLT, Int.reduceEq, Int.reduceToNat, reduceCtorEq, evL29x0, B29x0, evC_draw, evD29x0, E29x0, evC_draw, evD29x1, E29x1, kE, kL, g3, g4, hn2, hcl, hcl2, hsm, cob_len, cob_drop, htk, at_end, set_end, List.getElem?_set_self, List.set_cons_zero, elemsN, elemN, listN, appendN, okN, small]
end Go.Proofs.Yteaojpfofifmnaa.PE
/- Logs read: what both functions come to, for the exact statement. -/
set_option linter.unusedSimpArgs false
set_option linter.unusedVariables false
set_option maxHeartbeats 4000000
set_option maxRecDepth 20000
namespace Go.Proofs.Yteaojpfofifmnaa.PE
open Go.RowKit

theorem lim_nil : LimE ([] : List Ent) := ⟨by simp, fun e he => by cases he⟩
-- find29
theorem own_lFrom (d : Nat) (c : Bool) (b : List UInt8) (hb : b.length < 1099511627776) : ∃ v hc ids, runD tab noExt (d + 12) 29 [.sl c 1 (cellsOfBytes b)] [] = some ([v], hc) ∧ OwnF hc (.sub fdEntry) v (.sub ((lFrom 13 [] b).map entU)) ids ∧ ids.Nodup := by
  obtain ⟨v, h', ids, r1, r2, r3⟩ := loop_lfI d 13 [] c b [.nest 0 2 []] [] rfl hb lim_nil rfl (Grown.start rfl) 1099511627775 (by omega)
  refine ⟨v, h', ids, ?_, r2, r3⟩
  simp only [List.length_nil] at r1
  rw [runD_eq find29 _ _ _ (by simp)]
  simp -implicitDefEqProofs (disch := omega) only [go_sem, Nat.reduceBEq, Nat.reduceAdd, Nat.reduceSub, Nat.reduceMul, Nat.reduceLeDiff, Nat.reduceEqDiff, Nat.reduceLT, Int.reduceNeg, Int.reduceAdd, Int.reduceSub, Int.reduceMul, Int.reduceLE, Int.reduceLT, Int.reduceEq, Int.reduceToNat, reduceCtorEq]
  try simp -implicitDefEqProofs only [go_sem, Nat.reduceBEq, Nat.reduceAdd, Nat.reduceSub, Nat.reduceMul, Nat.reduceLeDiff, Nat.reduceEqDiff, Nat.reduceLT, Int.reduceNeg, Int.reduceAdd, Int.reduceSub, Int.reduceMul, Int.reduceLE, Int.reduceLT, Int.reduceEq, Int.reduceToNat, reduceCtorEq] at r1
  rw [r1]
  simp -implicitDefEqProofs (disch := omega) only [go_sem, Nat.reduceBEq, Nat.reduceAdd, Nat.reduceSub, Nat.reduceMul, Nat.reduceLeDiff, Nat.reduceEqDiff, Nat.reduceLT, Int.reduceNeg, Int.reduceAdd, Int.reduceSub, Int.reduceMul, Int.reduceLE, Int.reduceLT, Int.reduceEq, Int.reduceToNat, reduceCtorEq]
end Go.Proofs.Yteaojpfofifmnaa.PE
/- A log that is read is written back as the bytes that it took, and these are read as that log. -/
set_option linter.unusedSimpArgs false
set_option linter.unusedVariables false
namespace Go.Proofs.Yteaojpfofifmnaa.PE
open Go.RowKit

/-- How many bytes are read as entries. -/
def lN : Nat → List Ent → List UInt8 → Nat
  | 0, _, _ => 0
  | f + 1, out, b => if (eFrom b).2 = 0 then 0 else if logOk (out ++ [(eFrom b).1]) = true then (eFrom b).2 + lN f (out ++ [(eFrom b).1]) (b.drop (eFrom b).2) else 0
end Go.Proofs.Yteaojpfofifmnaa.PE
/- What is written is read back, whatever is behind it. -/
set_option linter.unusedSimpArgs false
set_option linter.unusedVariables false
namespace Go.Proofs.Yteaojpfofifmnaa.PE
open Go.RowKit

theorem toI_inj {a b : List UInt8} (h : toI a = toI b) : a = b := by
  refine (List.map_inj_right (fun x y hxy => ?_)).1 h
  exact UInt8.toNat_inj.1 (by omega)
theorem toI_split {B : List UInt8} {x y : List Int} (h : toI B = x ++ y) : ∃ B1 B2, B = B1 ++ B2 ∧ toI B1 = x ∧ toI B2 = y := by
  obtain ⟨B1, B2, e, h1, h2⟩ := List.map_eq_append_iff.1 h
  exact ⟨B1, B2, e, h1, h2⟩
theorem toI_uncons {B : List UInt8} {n : Int} {y : List Int} (h : toI B = n :: y) : ∃ b B', B = b :: B' ∧ (b.toNat : Int) = n ∧ toI B' = y := by
  obtain ⟨b, B', e, h1, h2⟩ := List.map_eq_cons_iff.1 h
  exact ⟨b, B', e, h1, h2⟩
theorem toI_none {B : List UInt8} (h : toI B = []) : B = [] := List.map_eq_nil_iff.1 h
theorem strB_toI (s : ByteArray) : strB s = toI s.data.toList := rfl
theorem toS_list (s : ByteArray) : toS s.data.toList = s := rfl
theorem vFrom_write {v : Val} (h : v.ok = true) {B : List UInt8} (hB : toI B = v.bytes) (r : List UInt8) : vFrom (B ++ r) = (v, B.length) := by
  obtain ⟨k, n, s⟩ := v
  have hk := ok_kinds h
  simp only at hk
  rcases hk with ⟨rfl, rfl, rfl⟩ | ⟨rfl, rfl, k2, k3⟩ | ⟨rfl, rfl, k2⟩ | ⟨rfl, rfl, k2, k3⟩
  · have hB' : toI B = [0] := hB
    obtain ⟨b, B', rfl, h1, h2⟩ := toI_uncons hB'
    obtain rfl := toI_none h2
    have hb : b.toNat = 0 := by omega
    cases r with
    | nil => simp only [List.append_nil, vFrom, hb, if_true]; rfl
    | cons x r => simp only [List.cons_append, List.nil_append, vFrom, hb, if_true]; rfl
  · have hB' : toI B = [1, (n + 10000) / 256, (n + 10000) % 256] := hB
    obtain ⟨b, B', rfl, h1, h2⟩ := toI_uncons hB'
    obtain ⟨x, B', rfl, h3, h2⟩ := toI_uncons h2
    obtain ⟨y, B', rfl, h4, h2⟩ := toI_uncons h2
    obtain rfl := toI_none h2
    have hb0 : ¬ b.toNat = 0 := by omega
    have hb1 : b.toNat = 1 := by omega
    have hn : (x.toNat : Int) * 256 + y.toNat - 10000 = n := by omega
    simp only [List.cons_append, List.nil_append, vFrom, if_neg hb0, if_pos hb1, hn, vChk, if_pos h]
    rfl
  · have hB' : toI B = 2 :: (s.size : Int) :: strB s := hB
    obtain ⟨b, B', rfl, h1, h2⟩ := toI_uncons hB'
    obtain ⟨x, B', rfl, h3, h2⟩ := toI_uncons h2
    rw [strB_toI] at h2
    obtain rfl := toI_inj h2
    have hl : s.data.toList.length = s.size := str_len s
    have hb0 : ¬ b.toNat = 0 := by omega
    have hb1 : ¬ b.toNat = 1 := by omega
    have hb2 : b.toNat = 2 := by omega
    have hx : x.toNat = s.data.toList.length := by omega
    have hle : x.toNat ≤ (s.data.toList ++ r).length := by rw [List.length_append]; omega
    have htk : (s.data.toList ++ r).take x.toNat = s.data.toList := by rw [hx, List.take_left]
    simp only [List.cons_append, vFrom, if_neg hb0, if_neg hb1, if_pos hb2, if_pos hle, htk, toS_list, vChk, if_pos h, List.length_cons]
    rw [hx, Nat.add_comm]
  · have hB' : toI B = [3, n] := hB
    obtain ⟨b, B', rfl, h1, h2⟩ := toI_uncons hB'
    obtain ⟨x, B', rfl, h3, h2⟩ := toI_uncons h2
    obtain rfl := toI_none h2
    have hb0 : ¬ b.toNat = 0 := by omega
    have hb1 : ¬ b.toNat = 1 := by omega
    have hb2 : ¬ b.toNat = 2 := by omega
    have hb3 : b.toNat = 3 := by omega
    simp only [List.cons_append, List.nil_append, vFrom, if_neg hb0, if_neg hb1, if_neg hb2, if_pos hb3, h3, vChk, if_pos h]
    rfl
theorem bytes_pos (v : Val) : 0 < v.bytes.length := by simp [Val.bytes]
theorem vsFrom_write : ∀ (vs : List Val), (∀ v ∈ vs, v.ok = true) → ∀ {B : List UInt8}, toI B = vs.flatMap Val.bytes → ∀ r, vsFrom vs.length (B ++ r) = some (vs, B.length)
  | [], _, B, hB, r => by
    obtain rfl := toI_none hB
    rfl
  | v :: vs, h, B, hB, r => by
    rw [List.flatMap_cons] at hB
    obtain ⟨B1, B2, rfl, h1, h2⟩ := toI_split hB
    have hv := vFrom_write (h v (by simp)) h1 (B2 ++ r)
    have hl : 0 < B1.length := by
      have := congrArg List.length h1
      rw [toI_len] at this
      have := bytes_pos v
      omega
    have ih := vsFrom_write vs (fun w hw => h w (by simp [hw])) h2 r
    rw [List.append_assoc]
    simp only [List.length_cons, vsFrom, hv, if_neg (show ¬ B1.length = 0 by omega), List.drop_left, ih, List.length_append]
theorem rFrom_write {vs : List Val} (h : rowOk vs = true) {B : List UInt8} (hB : toI B = rowBytes vs) (r : List UInt8) : rFrom (B ++ r) = (vs, B.length) := by
  obtain ⟨h1, h2⟩ := rowOk_at h
  rw [rowBytes_eq] at hB
  obtain ⟨k, B', rfl, e1, e2⟩ := toI_uncons hB
  have hk : k.toNat = vs.length := by omega
  rw [List.cons_append, rFrom_eq (by omega), hk, vsFrom_write vs h1 e2 r]
  simp only [List.length_cons]
  rw [Nat.add_comm]
theorem rowBytes_pos (vs : List Val) : 0 < (rowBytes vs).length := by rw [rowBytes_eq]; simp
theorem wsS_write : ∀ (ws : List Wr), (∀ w ∈ ws, w.one = true) → ∀ {B : List UInt8}, toI B = ws.flatMap wrBytes → ∀ r, ∃ ws', wsS ws.length (B ++ r) = some (ws', B.length) ∧ ws'.map wrU = ws.map wrU
  | [], _, B, hB, r => by
    obtain rfl := toI_none hB
    exact ⟨[], rfl, rfl⟩
  | w :: ws, h, B, hB, r => by
    rw [List.flatMap_cons] at hB
    obtain ⟨B1, B2, rfl, h1, h2⟩ := toI_split hB
    have h1' : toI B1 = w.key :: goneI w.gone :: rowBytes w.row.vs := h1
    obtain ⟨x, B1, rfl, e1, h3⟩ := toI_uncons h1'
    obtain ⟨y, B1, rfl, e2, h3⟩ := toI_uncons h3
    obtain ⟨_, _, hr⟩ := wr_one (h w (by simp))
    have hf := rFrom_write hr h3 (B2 ++ r)
    have hl : 0 < B1.length := by
      have := congrArg List.length h3
      rw [toI_len] at this
      have := rowBytes_pos w.row.vs
      omega
    obtain ⟨ws', i1, i2⟩ := wsS_write ws (fun q hq => h q (by simp [hq])) h2 r
    have hg : goneI w.gone = 0 ∨ goneI w.gone = 1 := by
      cases w.gone
      · exact .inl rfl
      · exact .inr rfl
    have hy : ¬ 1 < y.toNat := by omega
    have hgd : decide (y.toNat = 1) = w.gone := by
      cases hgo : w.gone
      · rw [hgo] at e2
        have : (y.toNat : Int) = 0 := e2
        exact decide_eq_false (by omega)
      · rw [hgo] at e2
        have : (y.toNat : Int) = 1 := e2
        exact decide_eq_true (by omega)
    refine ⟨⟨x.toNat, ⟨false, w.row.vs⟩, w.gone⟩ :: ws', ?_, ?_⟩
    · have e : (x :: y :: B1 ++ B2) ++ r = x :: y :: (B1 ++ (B2 ++ r)) := by simp
      rw [e]
      simp only [List.length_cons, wsS, if_neg hy, hf, if_neg (show ¬ B1.length = 0 by omega), List.drop_left, i1, wrOf, hgd, List.length_append, Option.some.injEq, Prod.mk.injEq, true_and]
      omega
    · simp only [List.map_cons, i2, wrU, e1]
theorem unF_app {b body : List UInt8} {n : Nat} (h : unF b = some (body, n)) (r : List UInt8) : unF (b ++ r) = some (body, n) := by
  obtain ⟨_, h2, _⟩ := unF_some h
  match b, h, h2 with
  | [], h, _ => cases h
  | [x], h, _ => cases h
  | x :: y :: q, h, h2 =>
    rw [List.cons_append, List.cons_append]
    rw [unF] at h ⊢
    generalize hN : 256 * x.toNat + y.toNat = N at h
    split at h
    · cases h
    rename_i h1
    split at h
    · rename_i h3
      simp only [Option.some.injEq, Prod.mk.injEq] at h
      obtain ⟨rfl, rfl⟩ := h
      have e1 : ¬ (q ++ r).length < N + 1 := by rw [List.length_append]; omega
      have e2 : (q ++ r).take N = q.take N := List.take_append_of_le_length (by omega)
      have e3 : (q ++ r).getD N 0 = q.getD N 0 := by rw [List.getD_eq_getElem?_getD, List.getD_eq_getElem?_getD, List.getElem?_append_left (by omega)]
      rw [if_neg e1, e2, e3, if_pos h3]
    · cases h
theorem eFrom_app {b : List UInt8} (hn : (eFrom b).2 ≠ 0) (r : List UInt8) : eFrom (b ++ r) = eFrom b := by
  obtain ⟨body, h1, h2⟩ := eFrom_some hn
  have h3 := unF_app h1 r
  have e : eFrom b = ((eFrom b).1, (eFrom b).2) := rfl
  rw [e]
  unfold eFrom at h3 ⊢
  rw [h3]
  simp only
  rw [h2]
  rfl
theorem eFrom_write {e : Ent} (h : logOk [e] = true) {B : List UInt8} (hB : toI B = frB (bodyB e)) (r : List UInt8) : ∃ e', eFrom (B ++ r) = (e', B.length) ∧ entU e' = entU e := by
  obtain ⟨o1, o2, o3⟩ := one_at h
  have hbl := body_len h
  have hB' : toI B = ((bodyB e).length : Int) / 256 :: ((bodyB e).length : Int) % 256 :: (bodyB e ++ [sumB (bodyB e)]) := hB
  obtain ⟨x, B', rfl, e1, h3⟩ := toI_uncons hB'
  obtain ⟨y, B', rfl, e2, h3⟩ := toI_uncons h3
  obtain ⟨B1, B2, rfl, h4, h5⟩ := toI_split h3
  obtain ⟨s, B2, rfl, e3, h5⟩ := toI_uncons h5
  obtain rfl := toI_none h5
  have hl1 : B1.length = (bodyB e).length := by rw [← h4, toI_len]
  have hu : unF (x :: y :: (B1 ++ [s])) = some (B1, B1.length + 3) := by
    have hN : 256 * x.toNat + y.toNat = B1.length := by omega
    rw [unF, hN]
    have g1 : ¬ (B1 ++ [s]).length < B1.length + 1 := by simp
    have g3 : ((B1 ++ [s]).getD B1.length 0) = s := by rw [List.getD_eq_getElem?_getD, List.getElem?_append_right (Nat.le_refl _)]; simp
    rw [if_neg g1, List.take_left, g3, sumC, h4, e3, if_pos rfl]
  have hu2 := unF_app hu r
  rw [bodyB_eq] at h4
  obtain ⟨t, B1, rfl, e4, h4⟩ := toI_uncons h4
  obtain ⟨m, B1, rfl, e5, h4⟩ := toI_uncons h4
  obtain ⟨ws', w1, w2⟩ := wsS_write e.ws o2 h4 []
  rw [List.append_nil] at w1
  have hm : m.toNat = e.ws.length := by omega
  have heU : entU ⟨t.toNat, ws'.isEmpty, ws'⟩ = entU e := by simp only [entU, w2, e4]
  have hok : logOk [⟨t.toNat, ws'.isEmpty, ws'⟩] = true := by
    rw [logOk_vs (b := [e]) (by simp only [List.map_cons, List.map_nil, heU])]
    exact h
  have hrd : readS (t :: m :: B1) = some ⟨t.toNat, ws'.isEmpty, ws'⟩ := by
    simp only [readS, hm, w1]
    rw [if_pos ⟨trivial, hok⟩]
  refine ⟨⟨t.toNat, ws'.isEmpty, ws'⟩, ?_, heU⟩
  unfold eFrom
  rw [hu2]
  simp only
  rw [hrd]
  simp
theorem eFrom_short {e : Ent} (h : logOk [e] = true) {B : List UInt8} (hB : toI B = frB (bodyB e)) {m : Nat} (hm : m < B.length) : (eFrom (B.take m)).2 = 0 := by
  by_cases hn : (eFrom (B.take m)).2 = 0
  · exact hn
  · have h1 := eFrom_app hn (B.drop m)
    rw [List.take_append_drop] at h1
    obtain ⟨e', h2, _⟩ := eFrom_write h hB []
    rw [List.append_nil, h1] at h2
    have h3 := eFrom_le (B.take m)
    rw [h2, List.length_take] at h3
    simp only at h3
    omega
end Go.Proofs.Yteaojpfofifmnaa.PE
/- Bytes of a log that are torn: what is read of them. -/
set_option linter.unusedSimpArgs false
set_option linter.unusedVariables false
namespace Go.Proofs.Yteaojpfofifmnaa.PE
open Go.RowKit

def frE (e : Ent) : List Int := frB (bodyB e)
/-- How many entries lie whole within so many bytes. -/
def wh : List Ent → Nat → Nat
  | [], _ => 0
  | e :: l, n => if (frE e).length ≤ n then wh l (n - (frE e).length) + 1 else 0
theorem wh_le : ∀ (l : List Ent) (n : Nat), wh l n ≤ l.length
  | [], n => Nat.le_refl _
  | e :: l, n => by
    simp only [wh, List.length_cons]
    split
    · have := wh_le l (n - (frE e).length)
      omega
    · omega
theorem wh_sum : ∀ (l : List Ent) (k : Nat), k ≤ l.length → (∀ e ∈ l, 0 < (frE e).length) → wh l ((l.take k).flatMap frE).length = k
  | [], k, h, _ => by
    have : k = 0 := by simpa using h
    subst this
    rfl
  | e :: l, 0, _, hp => by
    have h1 := hp e (by simp)
    show (if (frE e).length ≤ 0 then _ else 0) = 0
    rw [if_neg (by omega)]
  | e :: l, k + 1, h, hp => by
    have ih := wh_sum l k (by simpa using h) (fun x hx => hp x (by simp [hx]))
    rw [List.take_succ_cons, List.flatMap_cons, List.length_append]
    simp only [wh, if_pos (Nat.le_add_right _ _), Nat.add_sub_cancel_left, ih]
theorem logOk_pre {a b : List Ent} (h : logOk (a ++ b) = true) : logOk a = true := by
  rw [logOk_iff] at h ⊢
  obtain ⟨h1, h2, h3⟩ := h
  refine ⟨fun e he => h1 e (List.mem_append_left _ he), (List.pairwise_append.1 h2).1, ?_⟩
  rw [List.length_append] at h3
  omega
theorem lFrom_pre : ∀ (l : List Ent) (f : Nat) (out out0 : List Ent) (B : List UInt8) (n : Nat), out.length + f = 13 → out.map entU = out0.map entU → logOk (out0 ++ l) = true → toI B = l.flatMap frE → (lFrom f out (B.take n)).map entU = out0.map entU ++ (l.take (wh l n)).map entU
  | [], f, out, out0, B, n, hf, hm, ho, hB => by
    obtain rfl := toI_none hB
    rw [List.take_nil, lFrom_nil, hm]
    simp
  | e :: l, f, out, out0, B, n, hf, hm, ho, hB => by
    rw [List.flatMap_cons] at hB
    obtain ⟨B1, B2, rfl, h1, h2⟩ := toI_split hB
    have hlen : out.length = out0.length := by simpa using congrArg List.length hm
    have h12 := log_len ho
    rw [List.length_append, List.length_cons] at h12
    obtain ⟨f, rfl⟩ : ∃ g, f = g + 1 := ⟨f - 1, by omega⟩
    have hb1 : B1.length = (frE e).length := by rw [← h1, toI_len]
    have ho2 : logOk (out0 ++ [e]) = true := logOk_pre (b := l) (by simpa using ho)
    have ho1 : logOk [e] = true := log_one ho e (by simp)
    have hpos := (fr_len ho1).1
    simp only [wh]
    by_cases hn : (frE e).length ≤ n
    · rw [if_pos hn]
      have e1 : (B1 ++ B2).take n = B1 ++ B2.take (n - (frE e).length) := by rw [List.take_append, List.take_of_length_le (by omega), hb1]
      obtain ⟨e', w1, w2⟩ := eFrom_write ho1 h1 (B2.take (n - (frE e).length))
      have hne : ¬ B1.length = 0 := by rw [hb1]; unfold frE; omega
      have hok : logOk (out ++ [e']) = true := by
        rw [logOk_vs (b := out0 ++ [e]) (by simp only [List.map_append, List.map_cons, List.map_nil, hm, w2])]
        exact ho2
      have ih := lFrom_pre l f (out ++ [e']) (out0 ++ [e]) B2 (n - (frE e).length) (by simp; omega) (by simp only [List.map_append, List.map_cons, List.map_nil, hm, w2]) (by simpa using ho) h2
      rw [e1]
      simp only [lFrom, w1, if_neg hne, if_pos hok, List.drop_left]
      rw [ih, List.take_succ_cons]
      simp
    · rw [if_neg hn]
      have e1 : (B1 ++ B2).take n = B1.take n := List.take_append_of_le_length (by omega)
      have hs := eFrom_short ho1 h1 (m := n) (by omega)
      rw [e1]
      simp only [lFrom, if_pos hs]
      simp [hm]
theorem logBytes_flat {l : List Ent} (h : logOk l = true) : logBytes l = l.flatMap frE := by
  rw [logBytes, if_pos h]
  have key : ∀ (l : List Ent) (b : List Int), l.foldl entF b = b ++ l.flatMap frE := by
    intro l
    induction l with
    | nil => intro b; simp
    | cons e l ih => intro b; rw [List.foldl_cons, ih, List.flatMap_cons, entF, List.append_assoc]; rfl
  rw [key]
  rfl
theorem lFrom_torn {l : List Ent} (h : logOk l = true) {B : List UInt8} (hB : toI B = logBytes l) (n : Nat) : (lFrom 13 [] (B.take n)).map entU = (l.take (wh l n)).map entU := by
  rw [logBytes_flat h] at hB
  have := lFrom_pre l 13 [] [] B n rfl rfl h hB
  simpa using this
theorem wh_all {l : List Ent} (h : logOk l = true) {B : List UInt8} (hB : toI B = logBytes l) : wh l B.length = l.length := by
  rw [logBytes_flat h] at hB
  have h1 := wh_sum l l.length (Nat.le_refl _) (fun e he => (fr_len (log_one h e he)).1)
  rw [List.take_length, ← hB, toI_len] at h1
  exact h1
end Go.Proofs.Yteaojpfofifmnaa.PE
/- Writes that are drawn. -/
set_option linter.unusedSimpArgs false
set_option linter.unusedVariables false
set_option maxHeartbeats 4000000
namespace Go.Proofs.Yteaojpfofifmnaa.PE
open Go.RowKit

/-- A short row. -/
def GS (vs : List Val) : Prop := vs.length ≤ 20 ∧ ∀ v ∈ vs, v.s.size ≤ 20
theorem GS.nil : GS [] := ⟨by simp, fun _ h => by cases h⟩
theorem GS.short {vs : List Val} (h : GS vs) : vs.length < 1099511627776 ∧ short vs := ⟨by have := h.1; omega, fun v hv => by have := h.2 v hv; omega⟩
-- find149
theorem ex_small {d : Nat} {hp t : Heap} {c : Bool} {bs : List UInt8} {p : Int} {X : Option (V × Heap)} (hx : callS (runD tab noExt (d + 2)) (hp ++ .box [.sl c 1 (cellsOfBytes bs), .int .i64 (p)] :: t) 149 [.ptr hp.length 0 0 0] false = X)
    (hp0 : 0 ≤ p) (hq : p ≤ 1099511000000) (hb : bs.length ≤ 2000) (hhp : plainH hp = true) (ht : plainH t = true) :
    ∃ m p', X = some (.sl true 3 [[.int .i64 1, .int .i64 m, .str ⟨#[]⟩]], hp ++ .box [.sl c 1 (cellsOfBytes bs), .int .i64 (p')] :: t) ∧ p ≤ p' ∧ p' ≤ p + 1 := by
  subst hx
  have hh : ∀ n, t.all (hiB n) = true := fun n => plainH_hi ht n
  have hhq : ∀ n, hp.all (hiB n) = true := fun n => plainH_hi hhp n
  rw [callS_eq, runD_eq find149 _ _ _ (by simp)]
  simp -implicitDefEqProofs only [go_sem, Nat.reduceBEq, Nat.reduceAdd, Nat.reduceSub, Nat.reduceMul, Nat.reduceLeDiff, Nat.reduceEqDiff, Nat.reduceLT, Int.reduceNeg, Int.reduceAdd, Int.reduceSub, Int.reduceMul, Int.reduceLE, Int.reduceLT, Int.reduceEq, Int.reduceToNat, reduceCtorEq]
  repeat' (first | ((conv in (callS _ _ 116 _ false) => skip); generalize hx : callS (runD tab noExt _) (_ ++ _ :: _) 116 _ false = X; obtain ⟨m, rfl, hm1, hm2⟩ := ex_pick hx (by omega) (by omega) hb hhp (by simp only [ht, plainH_nil, plainH_cons, plainH_append, plainB, List.all_cons, List.all_nil, Bool.and_self, Bool.and_true]) ; skip; clear hx; simp -implicitDefEqProofs (disch := omega) only [go_sem, Nat.reduceBEq, Nat.reduceAdd, Nat.reduceSub, Nat.reduceMul, Nat.reduceLeDiff, Nat.reduceEqDiff, Nat.reduceLT, Int.reduceNeg, Int.reduceAdd, Int.reduceSub, Int.reduceMul, Int.reduceLE, Int.reduceLT, Int.reduceEq, Int.reduceToNat, reduceCtorEq, IntWalk.i64_in, hh, hhq, List.all_append, elemsOf, elemOf, frzs, refs, refC, refsV, *]) | ((first | rw [GuardI_ndec] | rw [CondC_ndec] | rw [GuardQ_ndec] | rw [GuardV_ndec] | rw [GuardI_dec] | rw [CondC_dec] | rw [GuardQ_dec] | rw [GuardV_dec] | rw [GuardI_nby] | rw [CondC_nby] | rw [GuardQ_nby] | rw [GuardV_nby] | rw [GuardQ_by] | rw [GuardI_by] | rw [GuardV_by] | rw [CondC_by]) <;> split <;> simp -implicitDefEqProofs (disch := omega) only [go_sem, Nat.reduceBEq, Nat.reduceAdd, Nat.reduceSub, Nat.reduceMul, Nat.reduceLeDiff, Nat.reduceEqDiff, Nat.reduceLT, Int.reduceNeg, Int.reduceAdd, Int.reduceSub, Int.reduceMul, Int.reduceLE, Int.reduceLT, Int.reduceEq, Int.reduceToNat, reduceCtorEq, IntWalk.i64_in, hh, hhq, List.all_append, elemsOf, elemOf, frzs, refs, refC, refsV, *]))
  exact ⟨m, _, rfl, by omega, by omega⟩
def WrsPost (i : Nat) (ws : List Wr) : Prop := ws.length ≤ i ∧ ∀ w ∈ ws, GS w.row.vs
theorem WrsPost.snoc {i : Nat} {ws : List Wr} (h : WrsPost i ws) {w : Wr} (hw : GS w.row.vs) : WrsPost (i + 1) (ws ++ [w]) := ⟨by have := h.1; simp; omega, fun x hx => by
  rcases List.mem_append.1 hx with hx | hx
  · exact h.2 x hx
  · rw [List.mem_singleton.1 hx]; exact hw⟩
theorem WrsPost.skip {i : Nat} {ws : List Wr} (h : WrsPost i ws) : WrsPost (i + 1) ws := ⟨by have := h.1; omega, h.2⟩
-- find117
theorem loop_writes {d : Nat} {hp t : Heap} {c : Bool} {bs : List UInt8} {n : Int} (hb : bs.length ≤ 2000) (hhp : plainH hp = true) (ht : plainH t = true) : ∀ (j K i : Nat) {p : Int} {st len : Nat} {ws : List Wr} {Y : Out},
    LoopS (runD tab noExt (d + 2)) (drawI (runD tab noExt (d + 2))) [0, 1, 5, 6] [0, 1, 5] L117x0 (hp.length + (t.length + 3)) K [(0, .ptr hp.length 0 0 0), (1, .int .i64 n), (5, .ref (hp.length + (t.length + 2)) st 0 len false), (6, .int .i64 (i : Nat))]
      (hp ++ .box [.sl c 1 (cellsOfBytes bs), .int .i64 (p)] :: (t ++ [.rows 0 3 [], .rows st 3 (ws.map Wr.cells)])) = Y →
    i + j = 5 → j ≤ K → len = ws.length → WrsPost i ws → 0 ≤ p → p ≤ 1099500000000 + 3 * i → ∃ (ws' : List Wr) (st' : Nat) (p' : Int), Y = some (.exit 0, [(0, .ptr hp.length 0 0 0), (1, .int .i64 n), (5, .ref (hp.length + (t.length + 2)) st' 0 ws'.length false)],
      hp ++ .box [.sl c 1 (cellsOfBytes bs), .int .i64 (p')] :: (t ++ [.rows 0 3 [], .rows st' 3 (ws'.map Wr.cells)])) ∧ WrsPost 5 ws' ∧ p ≤ p' ∧ p' ≤ p + 3 * j := by
  have hh : ∀ n, t.all (hiB n) = true := fun n => plainH_hi ht n
  have hhq : ∀ n, hp.all (hiB n) = true := fun n => plainH_hi hhp n
  intro j
  induction j with
  | zero =>
    intro K i p st len ws Y hL hk hK hlen hs hp0 hq
    obtain rfl : i = 5 := by omega
    subst hL hlen
    rw [LoopS_eq]
    simp -implicitDefEqProofs only [go_sem, Nat.reduceBEq, Nat.reduceAdd, Nat.reduceSub, Nat.reduceMul, Nat.reduceLeDiff, Nat.reduceEqDiff, Nat.reduceLT, Int.reduceNeg, Int.reduceAdd, Int.reduceSub, Int.reduceMul, Int.reduceLE, Int.reduceLT, Int.reduceEq, Int.reduceToNat, reduceCtorEq, evL117x0, B117x0, hh, hhq, List.all_append, Int.lt_irrefl, Int.cast_ofNat_Int]
    exact ⟨ws, st, p, rfl, hs, by omega, by omega⟩
  | succ j ih =>
    intro K i p st len ws Y hL hk hK hlen hs hp0 hq
    obtain ⟨K, rfl⟩ : ∃ K', K = K' + 1 := ⟨K - 1, by omega⟩
    subst hL hlen
    have hk0 : (i : Int) < 5 := by omega
    have hws : ws.length ≤ 5 := by have := hs.1; omega
    have h1 : ws.length + 1 < 4294967296 := by omega
    rw [LoopS_eq]
    simp -implicitDefEqProofs (disch := omega) only [go_sem, Nat.reduceBEq, Nat.reduceAdd, Nat.reduceSub, Nat.reduceMul, Nat.reduceLeDiff, Nat.reduceEqDiff, Nat.reduceLT, Int.reduceNeg, Int.reduceAdd, Int.reduceSub, Int.reduceMul, Int.reduceLE, Int.reduceLT, Int.reduceEq, Int.reduceToNat, reduceCtorEq, evL117x0, B117x0, hh, hhq, hk0, List.all_append]
    repeat' (first | ((conv in (callS _ _ 149 _ false) => skip); generalize hx : callS (runD tab noExt _) (_ ++ _ :: _) 149 _ false = X; obtain ⟨m2, p', rfl, hv1, hv2⟩ := ex_small hx (by omega) (by omega) hb hhp (by simp only [ht, plainH_nil, plainH_cons, plainH_append, plainB, List.all_cons, List.all_nil, Bool.and_self, Bool.and_true]) ; skip; clear hx; simp -implicitDefEqProofs (disch := omega) only [go_sem, Nat.reduceBEq, Nat.reduceAdd, Nat.reduceSub, Nat.reduceMul, Nat.reduceLeDiff, Nat.reduceEqDiff, Nat.reduceLT, Int.reduceNeg, Int.reduceAdd, Int.reduceSub, Int.reduceMul, Int.reduceLE, Int.reduceLT, Int.reduceEq, Int.reduceToNat, reduceCtorEq, IntWalk.i64_in, hh, hhq, List.all_append, elemsOf, elemOf, frzs, refs, refC, refsV, List.contains_nil, *]) | ((conv in (callS _ _ 116 _ false) => skip); generalize hx : callS (runD tab noExt _) (_ ++ _ :: _) 116 _ false = X; obtain ⟨m, rfl, hm1, hm2⟩ := ex_pick hx (by omega) (by omega) hb hhp (by simp only [ht, plainH_nil, plainH_cons, plainH_append, plainB, List.all_cons, List.all_nil, Bool.and_self, Bool.and_true]) ; skip; clear hx; simp -implicitDefEqProofs (disch := omega) only [go_sem, Nat.reduceBEq, Nat.reduceAdd, Nat.reduceSub, Nat.reduceMul, Nat.reduceLeDiff, Nat.reduceEqDiff, Nat.reduceLT, Int.reduceNeg, Int.reduceAdd, Int.reduceSub, Int.reduceMul, Int.reduceLE, Int.reduceLT, Int.reduceEq, Int.reduceToNat, reduceCtorEq, IntWalk.i64_in, hh, hhq, List.all_append, elemsOf, elemOf, frzs, refs, refC, refsV, List.contains_nil, *]) | ((first | rw [GuardI_ndec] | rw [CondC_ndec] | rw [GuardQ_ndec] | rw [GuardV_ndec] | rw [GuardI_dec] | rw [CondC_dec] | rw [GuardQ_dec] | rw [GuardV_dec] | rw [GuardI_nby] | rw [CondC_nby] | rw [GuardQ_nby] | rw [GuardV_nby] | rw [GuardQ_by] | rw [GuardI_by] | rw [GuardV_by] | rw [CondC_by]) <;> split <;> simp -implicitDefEqProofs (disch := omega) only [go_sem, Nat.reduceBEq, Nat.reduceAdd, Nat.reduceSub, Nat.reduceMul, Nat.reduceLeDiff, Nat.reduceEqDiff, Nat.reduceLT, Int.reduceNeg, Int.reduceAdd, Int.reduceSub, Int.reduceMul, Int.reduceLE, Int.reduceLT, Int.reduceEq, Int.reduceToNat, reduceCtorEq, IntWalk.i64_in, hh, hhq, List.all_append, elemsOf, elemOf, frzs, refs, refC, refsV, List.contains_nil, *]))
    · have e : (ws ++ [(⟨i, ⟨true, []⟩, true⟩ : Wr)]).map Wr.cells = ws.map Wr.cells ++ [[.int .i64 i, .sl true 3 [], .bool true]] := by simp [Wr.cells, Row.v]
      rw [← e]
      generalize hL : LoopS _ _ _ _ _ _ _ _ _ = Y
      obtain ⟨ws', st', p', h2, h3, h4, h5⟩ := ih K (i + 1) (ws := ws ++ [(⟨i, ⟨true, []⟩, true⟩ : Wr)]) hL (by omega) (by omega) (by simp) (hs.snoc GS.nil) (by omega) (by omega)
      exact ⟨ws', st', p', h2, h3, by omega, by omega⟩
    · have e : (ws ++ [(⟨i, ⟨true, [⟨1, m2, ⟨#[]⟩⟩]⟩, false⟩ : Wr)]).map Wr.cells = ws.map Wr.cells ++ [[.int .i64 i, .sl true 3 [[.int .i64 1, .int .i64 m2, .str ⟨#[]⟩]], .bool false]] := by simp [Wr.cells, Row.v, Val.cells]
      rw [← e]
      generalize hL : LoopS _ _ _ _ _ _ _ _ _ = Y
      obtain ⟨ws', st', p', h2, h3, h4, h5⟩ := ih K (i + 1) (ws := ws ++ [(⟨i, ⟨true, [⟨1, m2, ⟨#[]⟩⟩]⟩, false⟩ : Wr)]) hL (by omega) (by omega) (by simp) (hs.snoc ⟨by simp, fun v hv => by rw [List.mem_singleton.1 hv]; exact Nat.zero_le _⟩) (by omega) (by omega)
      exact ⟨ws', st', p', h2, h3, by omega, by omega⟩
    · generalize hL : LoopS _ _ _ _ _ _ _ _ _ = Y
      obtain ⟨ws', st', p', h2, h3, h4, h5⟩ := ih K (i + 1) (ws := ws) hL (by omega) (by omega) rfl hs.skip (by omega) (by omega)
      exact ⟨ws', st', p', h2, h3, by omega, by omega⟩
end Go.Proofs.Yteaojpfofifmnaa.PE
/- Values that are drawn. -/
set_option linter.unusedSimpArgs false
set_option linter.unusedVariables false
set_option maxHeartbeats 4000000
namespace Go.Proofs.Yteaojpfofifmnaa.PE
open Go.RowKit

theorem empty_size : (⟨#[]⟩ : ByteArray).size = 0 := rfl
/-- A drawn value's text is short. -/
def GV (v : Val) : Prop := v.s.size ≤ 20

-- find163
theorem ex_like {d : Nat} {hp t : Heap} {c : Bool} {bs : List UInt8} {p k : Int} {e : Bool} {X : Option (V × Heap)} (hx : callS (runD tab noExt (d + 2)) (hp ++ .box [.sl c 1 (cellsOfBytes bs), .int .i64 (p)] :: t) 163 [.ptr hp.length 0 0 0, .agg [.int .i64 k, .bool e]] false = X)
    (hp0 : 0 ≤ p) (hq : p ≤ 1099511000000) (hb : bs.length ≤ 2000) (hhp : plainH hp = true) (ht : plainH t = true) :
    ∃ v p', X = some (Val.enc v, hp ++ .box [.sl c 1 (cellsOfBytes bs), .int .i64 (p')] :: t) ∧ p ≤ p' ∧ p' ≤ p + 2 ∧ GV v := by
  subst hx
  have hh : ∀ n, t.all (hiB n) = true := fun n => plainH_hi ht n
  have hhq : ∀ n, hp.all (hiB n) = true := fun n => plainH_hi hhp n
  rw [callS_eq, runD_eq find163 _ _ _ (by simp)]
  simp -implicitDefEqProofs only [go_sem, Nat.reduceBEq, Nat.reduceAdd, Nat.reduceSub, Nat.reduceMul, Nat.reduceLeDiff, Nat.reduceEqDiff, Nat.reduceLT, Int.reduceNeg, Int.reduceAdd, Int.reduceSub, Int.reduceMul, Int.reduceLE, Int.reduceLT, Int.reduceEq, Int.reduceToNat, reduceCtorEq]
  have hidx : ∀ m : Int, 0 ≤ m → m < 4 → ∃ x : ByteArray, ([[.str ⟨#[]⟩], [.str ⟨#[97]⟩], [.str ⟨#[98]⟩], [.str ⟨#[97, 98]⟩]] : List (List V))[m.toNat]? = some [.str x] ∧ x.size ≤ 2 := by
    intro m h0 h1
    rcases (by omega : m = 0 ∨ m = 1 ∨ m = 2 ∨ m = 3) with rfl | rfl | rfl | rfl <;> exact ⟨_, rfl, Nat.le_of_ble_eq_true rfl⟩
  repeat' (first | ((conv in (callS _ _ 116 _ false) => skip); generalize hx : callS (runD tab noExt _) (_ ++ _ :: _) 116 [_, .int .i64 4] false = X; obtain ⟨m, rfl, hm1, hm2⟩ := ex_pick hx (by omega) (by omega) hb hhp (by simp only [ht, plainH_nil, plainH_cons, plainH_append, plainB, List.all_cons, List.all_nil, Bool.and_self, Bool.and_true]) ; skip; clear hx; obtain ⟨x, hx1, hx2⟩ := hidx m hm1 (by omega); simp -implicitDefEqProofs (disch := omega) only [go_sem, Nat.reduceBEq, Nat.reduceAdd, Nat.reduceSub, Nat.reduceMul, Nat.reduceLeDiff, Nat.reduceEqDiff, Nat.reduceLT, Int.reduceNeg, Int.reduceAdd, Int.reduceSub, Int.reduceMul, Int.reduceLE, Int.reduceLT, Int.reduceEq, Int.reduceToNat, reduceCtorEq, IntWalk.i64_in, hh, hhq, List.all_append, *]) | ((conv in (callS _ _ 116 _ false) => skip); generalize hx : callS (runD tab noExt _) (_ ++ _ :: _) 116 _ false = X; obtain ⟨m, rfl, hm1, hm2⟩ := ex_pick hx (by omega) (by omega) hb hhp (by simp only [ht, plainH_nil, plainH_cons, plainH_append, plainB, List.all_cons, List.all_nil, Bool.and_self, Bool.and_true]) ; skip; clear hx; simp -implicitDefEqProofs (disch := omega) only [go_sem, Nat.reduceBEq, Nat.reduceAdd, Nat.reduceSub, Nat.reduceMul, Nat.reduceLeDiff, Nat.reduceEqDiff, Nat.reduceLT, Int.reduceNeg, Int.reduceAdd, Int.reduceSub, Int.reduceMul, Int.reduceLE, Int.reduceLT, Int.reduceEq, Int.reduceToNat, reduceCtorEq, IntWalk.i64_in, hh, hhq, List.all_append, *]) | ((first | rw [GuardI_ndec] | rw [CondC_ndec] | rw [GuardQ_ndec] | rw [GuardV_ndec] | rw [GuardI_dec] | rw [CondC_dec] | rw [GuardQ_dec] | rw [GuardV_dec] | rw [GuardI_nby] | rw [CondC_nby] | rw [GuardQ_nby] | rw [GuardV_nby] | rw [GuardQ_by] | rw [GuardI_by] | rw [GuardV_by] | rw [CondC_by]) <;> split <;> simp -implicitDefEqProofs (disch := omega) only [go_sem, Nat.reduceBEq, Nat.reduceAdd, Nat.reduceSub, Nat.reduceMul, Nat.reduceLeDiff, Nat.reduceEqDiff, Nat.reduceLT, Int.reduceNeg, Int.reduceAdd, Int.reduceSub, Int.reduceMul, Int.reduceLE, Int.reduceLT, Int.reduceEq, Int.reduceToNat, reduceCtorEq, IntWalk.i64_in, hh, hhq, List.all_append, *]))
  all_goals first | (exfalso; omega) | (refine ⟨⟨_, _, _⟩, _, rfl, ?_, ?_, ?_⟩ <;> first | omega | exact Nat.le_of_ble_eq_true rfl | exact Nat.le_trans (by assumption) (by decide))

theorem size_append' (a b : ByteArray) : (a ++ b).size = a.size + b.size := ByteArray.size_append
theorem size_one (b : UInt8) : (⟨#[b]⟩ : ByteArray).size = 1 := rfl

def ValPost (p q : Int) (s s' : ByteArray) (p' : Int) : Prop := p ≤ p' ∧ p' ≤ p + q ∧ s'.size ≤ s.size + q
-- find164
theorem loop_value {d : Nat} {hp t : Heap} {c : Bool} {bs : List UInt8} {n : Int} (hb : bs.length ≤ 2000) (hhp : plainH hp = true) (ht : plainH t = true) : ∀ (j K : Nat) {p k : Int} {s : ByteArray} {Y : Out},
    LoopS (runD tab noExt (d + 1)) (drawI (runD tab noExt (d + 1))) [0, 1, 4, 5, 6] [0, 1, 4, 5] L164x0 (hp.length + (t.length + 3)) K [(0, .ptr hp.length 0 0 0), (1, .int .i64 n), (4, .ptr (hp.length + (t.length + 1)) 0 0 0), (5, .ptr (hp.length + (t.length + 2)) 0 0 0), (6, .int .i64 k)]
      (hp ++ .box [.sl c 1 (cellsOfBytes bs), .int .i64 (p)] :: (t ++ [.box [.int .i64 0, .int .i64 0, .str ⟨#[]⟩], .box [.int .i64 2, .int .i64 0, .str s]])) = Y →
    k = j → j ≤ K → s.size + j ≤ 1000 → 0 ≤ p → p + j ≤ 1099511000000 → ∃ s' p', Y = some (.exit 1, [(0, .ptr hp.length 0 0 0), (1, .int .i64 n), (4, .ptr (hp.length + (t.length + 1)) 0 0 0), (5, .ptr (hp.length + (t.length + 2)) 0 0 0)],
      hp ++ .box [.sl c 1 (cellsOfBytes bs), .int .i64 (p')] :: (t ++ [.box [.int .i64 0, .int .i64 0, .str ⟨#[]⟩], .box [.int .i64 2, .int .i64 0, .str s']])) ∧ ValPost p j s s' p' := by
  have hh : ∀ n, t.all (hiB n) = true := fun n => plainH_hi ht n
  have hhq : ∀ n, hp.all (hiB n) = true := fun n => plainH_hi hhp n
  intro j
  induction j with
  | zero =>
    intro K p k s Y hL hk hK hs hp0 hq
    subst hL hk
    rw [LoopS_eq]
    simp -implicitDefEqProofs only [go_sem, Nat.reduceBEq, Nat.reduceAdd, Nat.reduceSub, Nat.reduceMul, Nat.reduceLeDiff, Nat.reduceEqDiff, Nat.reduceLT, Int.reduceNeg, Int.reduceAdd, Int.reduceSub, Int.reduceMul, Int.reduceLE, Int.reduceLT, Int.reduceEq, Int.reduceToNat, reduceCtorEq, evL164x0, B164x0, hh, hhq, List.all_append, Int.lt_irrefl, Int.natCast_zero]
    exact ⟨s, p, rfl, by omega, by omega, by omega⟩
  | succ j ih =>
    intro K p k s Y hL hk hK hs hp0 hq
    obtain ⟨K, rfl⟩ : ∃ K', K = K' + 1 := ⟨K - 1, by omega⟩
    subst hL
    have hk0 : 0 < k := by omega
    have h1 : s.size + 1 < 4294967296 := by omega
    rw [LoopS_eq]
    simp -implicitDefEqProofs (disch := omega) only [go_sem, Nat.reduceBEq, Nat.reduceAdd, Nat.reduceSub, Nat.reduceMul, Nat.reduceLeDiff, Nat.reduceEqDiff, Nat.reduceLT, Int.reduceNeg, Int.reduceAdd, Int.reduceSub, Int.reduceMul, Int.reduceLE, Int.reduceLT, Int.reduceEq, Int.reduceToNat, reduceCtorEq, evL164x0, B164x0, evC_draw, evD164x0, E164x0, hh, hhq, hk0, List.all_append]
    repeat' (first | ((conv in (callS _ _ 116 _ false) => skip); generalize hx : callS (runD tab noExt _) (_ ++ _ :: _) 116 _ false = X; obtain ⟨m, rfl, hm1, hm2⟩ := ex_pick hx (by omega) (by omega) hb hhp (by simp only [ht, plainH_nil, plainH_cons, plainH_append, plainB, List.all_cons, List.all_nil, Bool.and_self, Bool.and_true]) ; skip;  simp -implicitDefEqProofs (disch := omega) only [go_sem, Nat.reduceBEq, Nat.reduceAdd, Nat.reduceSub, Nat.reduceMul, Nat.reduceLeDiff, Nat.reduceEqDiff, Nat.reduceLT, Int.reduceNeg, Int.reduceAdd, Int.reduceSub, Int.reduceMul, Int.reduceLE, Int.reduceLT, Int.reduceEq, Int.reduceToNat, reduceCtorEq, IntWalk.i64_in, hh, hhq, List.all_append, elemsOf, elemOf, frzs, List.flatMap_cons, List.flatMap_nil, refsV, refC, refs, listOf, bytesOf, small, size_one, *]) | ((first | rw [GuardI_ndec] | rw [CondC_ndec] | rw [GuardQ_ndec] | rw [GuardV_ndec] | rw [GuardI_dec] | rw [CondC_dec] | rw [GuardQ_dec] | rw [GuardV_dec] | rw [GuardI_nby] | rw [CondC_nby] | rw [GuardQ_nby] | rw [GuardV_nby] | rw [GuardQ_by] | rw [GuardI_by] | rw [GuardV_by] | rw [CondC_by]) <;> split <;> simp -implicitDefEqProofs (disch := omega) only [go_sem, Nat.reduceBEq, Nat.reduceAdd, Nat.reduceSub, Nat.reduceMul, Nat.reduceLeDiff, Nat.reduceEqDiff, Nat.reduceLT, Int.reduceNeg, Int.reduceAdd, Int.reduceSub, Int.reduceMul, Int.reduceLE, Int.reduceLT, Int.reduceEq, Int.reduceToNat, reduceCtorEq, IntWalk.i64_in, hh, hhq, List.all_append, elemsOf, elemOf, frzs, List.flatMap_cons, List.flatMap_nil, refsV, refC, refs, listOf, bytesOf, small, size_one, *]))
    generalize hL : LoopS _ _ _ _ _ _ _ _ _ = Y
    obtain ⟨s', p', rfl, h2, h3, h4⟩ := ih K hL (by omega) (by omega) (by rw [size_append', size_one]; omega) (by omega) (by omega)
    rw [size_append', size_one] at h4
    exact ⟨s', p', rfl, by omega, by omega, by omega⟩
end Go.Proofs.Yteaojpfofifmnaa.PE
/- Values, columns and rows that are drawn. -/
set_option linter.unusedSimpArgs false
set_option linter.unusedVariables false
set_option maxHeartbeats 4000000
namespace Go.Proofs.Yteaojpfofifmnaa.PE
open Go.RowKit

theorem loop_value' {d : Nat} {hp t : Heap} {c : Bool} {bs : List UInt8} {n : Int} (hb : bs.length ≤ 2000) (hhp : plainH hp = true) (ht : plainH t = true) {K : Nat} {p k : Int} {s : ByteArray} {Y : Out}
    (hL : LoopS (runD tab noExt (d + 1)) (drawI (runD tab noExt (d + 1))) [0, 1, 4, 5, 6] [0, 1, 4, 5] L164x0 (hp.length + (t.length + 3)) K [(0, .ptr hp.length 0 0 0), (1, .int .i64 n), (4, .ptr (hp.length + (t.length + 1)) 0 0 0), (5, .ptr (hp.length + (t.length + 2)) 0 0 0), (6, .int .i64 k)]
      (hp ++ .box [.sl c 1 (cellsOfBytes bs), .int .i64 (p)] :: (t ++ [.box [.int .i64 0, .int .i64 0, .str ⟨#[]⟩], .box [.int .i64 2, .int .i64 0, .str s]])) = Y)
    (hk : 0 ≤ k) (hk3 : k ≤ 3) (hK : 3 ≤ K) (hs : s.size ≤ 900) (hp0 : 0 ≤ p) (hq : p ≤ 1099510900000) : ∃ s' p', Y = some (.exit 1, [(0, .ptr hp.length 0 0 0), (1, .int .i64 n), (4, .ptr (hp.length + (t.length + 1)) 0 0 0), (5, .ptr (hp.length + (t.length + 2)) 0 0 0)],
      hp ++ .box [.sl c 1 (cellsOfBytes bs), .int .i64 (p')] :: (t ++ [.box [.int .i64 0, .int .i64 0, .str ⟨#[]⟩], .box [.int .i64 2, .int .i64 0, .str s']])) ∧ p ≤ p' ∧ p' ≤ p + 3 ∧ s'.size ≤ s.size + 3 := by
  obtain ⟨s', p', rfl, h1, h2, h3⟩ := loop_value hb hhp ht k.toNat K hL (by omega) (by omega) (by omega) (by omega) (by omega)
  exact ⟨s', p', rfl, h1, by omega, by omega⟩

theorem size_lit7 : (⟨#[97, 98, 99, 100, 101, 102, 103]⟩ : ByteArray).size = 7 := rfl
theorem size_lit1 : (⟨#[65]⟩ : ByteArray).size = 1 := rfl
-- find164
theorem ex_value {d : Nat} {hp t : Heap} {c : Bool} {bs : List UInt8} {p n : Int} {X : Option (V × Heap)} (hx : callS (runD tab noExt (d + 3)) (hp ++ .box [.sl c 1 (cellsOfBytes bs), .int .i64 (p)] :: t) 164 [.ptr hp.length 0 0 0, .int .i64 n] false = X)
    (hp0 : 0 ≤ p) (hq : p ≤ 1099510000000) (hb : bs.length ≤ 2000) (hhp : plainH hp = true) (ht : plainH t = true) :
    ∃ v p', X = some (Val.enc v, hp ++ .box [.sl c 1 (cellsOfBytes bs), .int .i64 (p')] :: t) ∧ p ≤ p' ∧ p' ≤ p + 20 ∧ GV v := by
  subst hx
  have hh : ∀ n, t.all (hiB n) = true := fun n => plainH_hi ht n
  have hhq : ∀ n, hp.all (hiB n) = true := fun n => plainH_hi hhp n
  rw [callS_eq, runD_eq find164 _ _ _ (by simp)]
  simp -implicitDefEqProofs only [go_sem, Nat.reduceBEq, Nat.reduceAdd, Nat.reduceSub, Nat.reduceMul, Nat.reduceLeDiff, Nat.reduceEqDiff, Nat.reduceLT, Int.reduceNeg, Int.reduceAdd, Int.reduceSub, Int.reduceMul, Int.reduceLE, Int.reduceLT, Int.reduceEq, Int.reduceToNat, reduceCtorEq]
  have hidx : ∀ m : Int, 0 ≤ m → m < 5 → ∃ x : Int, ([[.int .i64 9999], [.int .i64 (-9999)], [.int .i64 255], [.int .i64 256], [.int .i64 (-256)]] : List (List V))[m.toNat]? = some [.int .i64 x] := by
    intro m h0 h1
    rcases (by omega : m = 0 ∨ m = 1 ∨ m = 2 ∨ m = 3 ∨ m = 4) with rfl | rfl | rfl | rfl | rfl <;> exact ⟨_, rfl⟩
  repeat' (first | ((conv in (callS _ _ 116 _ false) => skip); generalize hx : callS (runD tab noExt _) (_ ++ _ :: _) 116 [_, .int .i64 5] false = X; obtain ⟨m, rfl, hm1, hm2⟩ := ex_pick hx (by omega) (by omega) hb hhp (by simp only [ht, plainH_nil, plainH_cons, plainH_append, plainB, List.all_cons, List.all_nil, Bool.and_self, Bool.and_true]) ; skip; clear hx; obtain ⟨x, hx1⟩ := hidx m hm1 (by omega); simp -implicitDefEqProofs (disch := omega) only [go_sem, Nat.reduceBEq, Nat.reduceAdd, Nat.reduceSub, Nat.reduceMul, Nat.reduceLeDiff, Nat.reduceEqDiff, Nat.reduceLT, Int.reduceNeg, Int.reduceAdd, Int.reduceSub, Int.reduceMul, Int.reduceLE, Int.reduceLT, Int.reduceEq, Int.reduceToNat, reduceCtorEq, IntWalk.i64_in, hh, hhq, List.all_append, size_lit7, size_lit1, empty_size, *]) | ((conv in (callS _ _ 116 _ false) => skip); generalize hx : callS (runD tab noExt _) (_ ++ _ :: _) 116 _ false = X; obtain ⟨m, rfl, hm1, hm2⟩ := ex_pick hx (by omega) (by omega) hb hhp (by simp only [ht, plainH_nil, plainH_cons, plainH_append, plainB, List.all_cons, List.all_nil, Bool.and_self, Bool.and_true]) ; skip; clear hx; simp -implicitDefEqProofs (disch := omega) only [go_sem, Nat.reduceBEq, Nat.reduceAdd, Nat.reduceSub, Nat.reduceMul, Nat.reduceLeDiff, Nat.reduceEqDiff, Nat.reduceLT, Int.reduceNeg, Int.reduceAdd, Int.reduceSub, Int.reduceMul, Int.reduceLE, Int.reduceLT, Int.reduceEq, Int.reduceToNat, reduceCtorEq, IntWalk.i64_in, hh, hhq, List.all_append, size_lit7, size_lit1, empty_size, *]) | ((conv in (callS _ _ 118 _ false) => skip); generalize hx : callS (runD tab noExt _) (_ ++ _ :: _) 118 _ false = X; obtain ⟨b, p', rfl, hm1, hm2, hm3⟩ := ex_odd hx (by omega) (by omega) hb hhp (by simp only [ht, plainH_nil, plainH_cons, plainH_append, plainB, List.all_cons, List.all_nil, Bool.and_self, Bool.and_true]) ; skip; clear hx; simp -implicitDefEqProofs (disch := omega) only [go_sem, Nat.reduceBEq, Nat.reduceAdd, Nat.reduceSub, Nat.reduceMul, Nat.reduceLeDiff, Nat.reduceEqDiff, Nat.reduceLT, Int.reduceNeg, Int.reduceAdd, Int.reduceSub, Int.reduceMul, Int.reduceLE, Int.reduceLT, Int.reduceEq, Int.reduceToNat, reduceCtorEq, IntWalk.i64_in, hh, hhq, List.all_append, size_lit7, size_lit1, empty_size, *]) | ((conv in (LoopS _ _ _ _ _ _ _ _ _) => skip); generalize hx : LoopS _ _ _ _ _ _ _ _ _ = Y; obtain ⟨s', p', rfl, h2, h3, h4⟩ := loop_value' hb hhp ht hx (by omega) (by omega) (by omega) (by have := empty_size; omega) (by omega) (by omega); clear hx; have h5 := empty_size; have hs1 : s'.size + 7 < 4294967296 := (by omega); have hs2 : s'.size + 1 < 4294967296 := (by omega); simp -implicitDefEqProofs (disch := omega) only [go_sem, Nat.reduceBEq, Nat.reduceAdd, Nat.reduceSub, Nat.reduceMul, Nat.reduceLeDiff, Nat.reduceEqDiff, Nat.reduceLT, Int.reduceNeg, Int.reduceAdd, Int.reduceSub, Int.reduceMul, Int.reduceLE, Int.reduceLT, Int.reduceEq, Int.reduceToNat, reduceCtorEq, IntWalk.i64_in, hh, hhq, List.all_append, size_lit7, size_lit1, empty_size, *]) | ((first | rw [GuardI_ndec] | rw [CondC_ndec] | rw [GuardQ_ndec] | rw [GuardV_ndec] | rw [GuardI_dec] | rw [CondC_dec] | rw [GuardQ_dec] | rw [GuardV_dec] | rw [GuardI_nby] | rw [CondC_nby] | rw [GuardQ_nby] | rw [GuardV_nby] | rw [GuardQ_by] | rw [GuardI_by] | rw [GuardV_by] | rw [CondC_by]) <;> split <;> simp -implicitDefEqProofs (disch := omega) only [go_sem, Nat.reduceBEq, Nat.reduceAdd, Nat.reduceSub, Nat.reduceMul, Nat.reduceLeDiff, Nat.reduceEqDiff, Nat.reduceLT, Int.reduceNeg, Int.reduceAdd, Int.reduceSub, Int.reduceMul, Int.reduceLE, Int.reduceLT, Int.reduceEq, Int.reduceToNat, reduceCtorEq, IntWalk.i64_in, hh, hhq, List.all_append, size_lit7, size_lit1, empty_size, *]))
  all_goals first | (exfalso; omega) | (refine ⟨⟨_, _, _⟩, _, rfl, ?_, ?_, ?_⟩ <;> first | omega | exact Nat.le_of_ble_eq_true rfl | exact Nat.le_trans (by assumption) (by decide) | (show ByteArray.size (_ ++ _) ≤ 20; rw [size_append']; (first | rw [size_lit7] | rw [size_lit1]); omega))
end Go.Proofs.Yteaojpfofifmnaa.PE
/- Columns and rows that are drawn. -/
set_option linter.unusedSimpArgs false
set_option linter.unusedVariables false
set_option maxHeartbeats 4000000
namespace Go.Proofs.Yteaojpfofifmnaa.PE
open Go.RowKit

def IsCol (x : List V) : Prop := ∃ k e, x = [.int .i64 k, .bool e]
def AllP (P : List V → Prop) (l : List (List V)) : Prop := ∀ x ∈ l, P x
theorem AllP.nil {P : List V → Prop} : AllP P [] := fun _ h => by cases h
theorem AllP.snoc {P : List V → Prop} {l : List (List V)} {x : List V} (h : AllP P l) (hx : P x) : AllP P (l ++ [x]) := fun y hy => by
  rcases List.mem_append.1 hy with h1 | h1
  · exact h y h1
  · rw [List.mem_singleton.1 h1]; exact hx
theorem AllP.append {P : List V → Prop} {l l' : List (List V)} (h : AllP P l) (h' : AllP P l') : AllP P (l ++ l') := fun y hy => by
  rcases List.mem_append.1 hy with h1 | h1
  · exact h y h1
  · exact h' y h1
theorem allP_map {α : Type} {P : List V → Prop} (f : α → List V) (hf : ∀ x, P x → ∃ a, x = f a) : ∀ {l : List (List V)}, AllP P l → ∃ zs : List α, l = zs.map f
  | [], _ => ⟨[], rfl⟩
  | x :: r, h => by
    obtain ⟨a, ha⟩ := hf x (h x List.mem_cons_self)
    obtain ⟨zs, has⟩ := allP_map f hf (fun y hy => h y (List.mem_cons_of_mem _ hy))
    exact ⟨a :: zs, by rw [ha, has]; rfl⟩
theorem cols_of {l : List (List V)} (h : AllP IsCol l) : ∃ cs : List Col, l = cs.map Col.cells := allP_map Col.cells (fun x ⟨k, e, hx⟩ => ⟨⟨k, e⟩, hx⟩) h

def ColsPost (j : Nat) (cont : List (List V)) (p : Int) (cont' : List (List V)) (p' : Int) : Prop := AllP IsCol cont' ∧ cont'.length = cont.length + j ∧ p ≤ p' ∧ p' ≤ p + 2 * j
-- find161
theorem loop_columns {d : Nat} {hp t : Heap} {c : Bool} {bs : List UInt8} {n : Int} (hb : bs.length ≤ 2000) (hhp : plainH hp = true) (ht : plainH t = true) : ∀ (j K : Nat) {p k : Int} {st len : Nat} {cont : List (List V)} {Y : Out},
    LoopS (runD tab noExt (d + 1)) (drawI (runD tab noExt (d + 1))) [0, 1, 5, 6] [0, 1, 5] L161x0 (hp.length + (t.length + 3)) K [(0, .ptr hp.length 0 0 0), (1, .int .i64 n), (5, .ref (hp.length + (t.length + 2)) st 0 len false), (6, .int .i64 k)]
      (hp ++ .box [.sl c 1 (cellsOfBytes bs), .int .i64 (p)] :: (t ++ [.rows 0 2 [], .rows st 2 cont])) = Y →
    k = j → j ≤ K → len = cont.length → cont.length + j ≤ 100 → AllP IsCol cont → 0 ≤ p → p + 2 * j ≤ 1099511000000 → ∃ cont' st' p', Y = some (.exit 0, [(0, .ptr hp.length 0 0 0), (1, .int .i64 n), (5, .ref (hp.length + (t.length + 2)) st' 0 cont'.length false)],
      hp ++ .box [.sl c 1 (cellsOfBytes bs), .int .i64 (p')] :: (t ++ [.rows 0 2 [], .rows st' 2 cont'])) ∧ ColsPost j cont p cont' p' := by
  have hh : ∀ n, t.all (hiB n) = true := fun n => plainH_hi ht n
  have hhq : ∀ n, hp.all (hiB n) = true := fun n => plainH_hi hhp n
  have hidx : ∀ m : Int, 0 ≤ m → m < 4 → ∃ x : Int, ([[.int .i64 1], [.int .i64 1], [.int .i64 2], [.int .i64 3]] : List (List V))[m.toNat]? = some [.int .i64 x] := by
    intro m h0 h1
    rcases (by omega : m = 0 ∨ m = 1 ∨ m = 2 ∨ m = 3) with rfl | rfl | rfl | rfl <;> exact ⟨_, rfl⟩
  intro j
  induction j with
  | zero =>
    intro K p k st len cont Y hL hk hK hlen hs hc hp0 hq
    subst hL hk hlen
    rw [LoopS_eq]
    simp -implicitDefEqProofs only [go_sem, Nat.reduceBEq, Nat.reduceAdd, Nat.reduceSub, Nat.reduceMul, Nat.reduceLeDiff, Nat.reduceEqDiff, Nat.reduceLT, Int.reduceNeg, Int.reduceAdd, Int.reduceSub, Int.reduceMul, Int.reduceLE, Int.reduceLT, Int.reduceEq, Int.reduceToNat, reduceCtorEq, evL161x0, B161x0, hh, hhq, List.all_append, Int.lt_irrefl, Int.natCast_zero]
    exact ⟨cont, st, p, rfl, hc, rfl, by omega, by omega⟩
  | succ j ih =>
    intro K p k st len cont Y hL hk hK hlen hs hc hp0 hq
    obtain ⟨K, rfl⟩ : ∃ K', K = K' + 1 := ⟨K - 1, by omega⟩
    subst hL hlen
    have hk0 : 0 < k := by omega
    have h1 : cont.length + 1 < 4294967296 := by omega
    rw [LoopS_eq]
    simp -implicitDefEqProofs (disch := omega) only [go_sem, Nat.reduceBEq, Nat.reduceAdd, Nat.reduceSub, Nat.reduceMul, Nat.reduceLeDiff, Nat.reduceEqDiff, Nat.reduceLT, Int.reduceNeg, Int.reduceAdd, Int.reduceSub, Int.reduceMul, Int.reduceLE, Int.reduceLT, Int.reduceEq, Int.reduceToNat, reduceCtorEq, evL161x0, B161x0, evC_draw, evD161x0, E161x0, hh, hhq, hk0, List.all_append]
    repeat' (first | ((conv in (callS _ _ 116 _ false) => skip); generalize hx : callS (runD tab noExt _) (_ ++ _ :: _) 116 [_, .int .i64 4] false = X; obtain ⟨m, rfl, hm1, hm2⟩ := ex_pick hx (by omega) (by omega) hb hhp (by simp only [ht, plainH_nil, plainH_cons, plainH_append, plainB, List.all_cons, List.all_nil, Bool.and_self, Bool.and_true]) ; skip;  obtain ⟨x, hx1⟩ := hidx m hm1 (by omega); simp -implicitDefEqProofs (disch := omega) only [go_sem, Nat.reduceBEq, Nat.reduceAdd, Nat.reduceSub, Nat.reduceMul, Nat.reduceLeDiff, Nat.reduceEqDiff, Nat.reduceLT, Int.reduceNeg, Int.reduceAdd, Int.reduceSub, Int.reduceMul, Int.reduceLE, Int.reduceLT, Int.reduceEq, Int.reduceToNat, reduceCtorEq, IntWalk.i64_in, hh, hhq, List.all_append, *]) | ((conv in (callS _ _ 116 _ false) => skip); generalize hx : callS (runD tab noExt _) (_ ++ _ :: _) 116 _ false = X; obtain ⟨m, rfl, hm1, hm2⟩ := ex_pick hx (by omega) (by omega) hb hhp (by simp only [ht, plainH_nil, plainH_cons, plainH_append, plainB, List.all_cons, List.all_nil, Bool.and_self, Bool.and_true]) ; skip;  simp -implicitDefEqProofs (disch := omega) only [go_sem, Nat.reduceBEq, Nat.reduceAdd, Nat.reduceSub, Nat.reduceMul, Nat.reduceLeDiff, Nat.reduceEqDiff, Nat.reduceLT, Int.reduceNeg, Int.reduceAdd, Int.reduceSub, Int.reduceMul, Int.reduceLE, Int.reduceLT, Int.reduceEq, Int.reduceToNat, reduceCtorEq, IntWalk.i64_in, hh, hhq, List.all_append, *]) | ((first | rw [GuardI_ndec] | rw [CondC_ndec] | rw [GuardQ_ndec] | rw [GuardV_ndec] | rw [GuardI_dec] | rw [CondC_dec] | rw [GuardQ_dec] | rw [GuardV_dec] | rw [GuardI_nby] | rw [CondC_nby] | rw [GuardQ_nby] | rw [GuardV_nby] | rw [GuardQ_by] | rw [GuardI_by] | rw [GuardV_by] | rw [CondC_by]) <;> split <;> simp -implicitDefEqProofs (disch := omega) only [go_sem, Nat.reduceBEq, Nat.reduceAdd, Nat.reduceSub, Nat.reduceMul, Nat.reduceLeDiff, Nat.reduceEqDiff, Nat.reduceLT, Int.reduceNeg, Int.reduceAdd, Int.reduceSub, Int.reduceMul, Int.reduceLE, Int.reduceLT, Int.reduceEq, Int.reduceToNat, reduceCtorEq, IntWalk.i64_in, hh, hhq, List.all_append, *]))
    generalize hL : LoopS _ _ _ _ _ _ _ _ _ = Y
    obtain ⟨cont', st', p', rfl, h2, h3, h4, h5⟩ := ih K hL (by omega) (by omega) (by simp) (by simp; omega) (hc.snoc ⟨_, _, rfl⟩) (by omega) (by omega)
    exact ⟨cont', st', p', rfl, h2, by simp at h3; omega, by omega, by omega⟩

theorem ex_columns {d : Nat} {hp t : Heap} {c : Bool} {bs : List UInt8} {p n : Int} {X : Option (V × Heap)} (hx : callS (runD tab noExt (d + 3)) (hp ++ .box [.sl c 1 (cellsOfBytes bs), .int .i64 (p)] :: t) 161 [.ptr hp.length 0 0 0, .int .i64 n] false = X)
    (hp0 : 0 ≤ p) (hq : p ≤ 1099510000000) (hb : bs.length ≤ 2000) (hhp : plainH hp = true) (ht : plainH t = true) :
    ∃ (cs : List Col) (p' : Int), X = some (.sl false 2 (cs.map Col.cells), hp ++ .box [.sl c 1 (cellsOfBytes bs), .int .i64 (p')] :: t) ∧ p ≤ p' ∧ p' ≤ p + 10 ∧ 1 ≤ cs.length ∧ cs.length ≤ 6 := by
  subst hx
  have hh : ∀ n, t.all (hiB n) = true := fun n => plainH_hi ht n
  have hhq : ∀ n, hp.all (hiB n) = true := fun n => plainH_hi hhp n
  rw [callS_eq, runD_eq find161 _ _ _ (by simp)]
  simp -implicitDefEqProofs only [go_sem, Nat.reduceBEq, Nat.reduceAdd, Nat.reduceSub, Nat.reduceMul, Nat.reduceLeDiff, Nat.reduceEqDiff, Nat.reduceLT, Int.reduceNeg, Int.reduceAdd, Int.reduceSub, Int.reduceMul, Int.reduceLE, Int.reduceLT, Int.reduceEq, Int.reduceToNat, reduceCtorEq, hh, hhq, List.all_append]
  generalize hx : callS (runD tab noExt _) _ 116 _ _ = X
  obtain ⟨m, rfl, hm1, hm2⟩ := ex_pick hx (by omega) (by omega) hb hhp (by simp only [ht, plainH_nil, plainH_cons, plainH_append, plainB, List.all_cons, List.all_nil, Bool.and_self, Bool.and_true])
  clear hx
  simp -implicitDefEqProofs (disch := omega) only [go_sem, Nat.reduceBEq, Nat.reduceAdd, Nat.reduceSub, Nat.reduceMul, Nat.reduceLeDiff, Nat.reduceEqDiff, Nat.reduceLT, Int.reduceNeg, Int.reduceAdd, Int.reduceSub, Int.reduceMul, Int.reduceLE, Int.reduceLT, Int.reduceEq, Int.reduceToNat, reduceCtorEq, IntWalk.i64_in, hh, hhq, List.all_append]
  generalize hx : LoopS _ _ _ _ _ _ _ _ _ = Y
  obtain ⟨cont, st, p1, rfl, h1, h2, h3, h4⟩ := loop_columns hb hhp ht (1 + m).toNat _ hx (by omega) (by omega) rfl (by simp; omega) AllP.nil (by omega) (by omega)
  clear hx
  simp only [List.length_nil, Nat.zero_add] at h2
  have h2a : 1 ≤ cont.length := by omega
  have h2b : cont.length ≤ 3 := by omega
  have h4' : p1 ≤ p + 7 := by omega
  clear h2 h4
  have h5 : cont.length + 3 < 4294967296 := by omega
  simp -implicitDefEqProofs (disch := omega) only [go_sem, Nat.reduceBEq, Nat.reduceAdd, Nat.reduceSub, Nat.reduceMul, Nat.reduceLeDiff, Nat.reduceEqDiff, Nat.reduceLT, Int.reduceNeg, Int.reduceAdd, Int.reduceSub, Int.reduceMul, Int.reduceLE, Int.reduceLT, Int.reduceEq, Int.reduceToNat, reduceCtorEq, hh, hhq, List.all_append]
  repeat' (first | ((conv in (callS _ _ 118 _ false) => skip); generalize hx : callS (runD tab noExt _) (_ ++ _ :: _) 118 _ false = X; obtain ⟨b, p', rfl, hm1, hm2, hm3⟩ := ex_odd hx (by omega) (by omega) hb hhp (by simp only [ht, plainH_nil, plainH_cons, plainH_append, plainB, List.all_cons, List.all_nil, Bool.and_self, Bool.and_true]) ; skip; clear hx; simp -implicitDefEqProofs (disch := omega) only [go_sem, Nat.reduceBEq, Nat.reduceAdd, Nat.reduceSub, Nat.reduceMul, Nat.reduceLeDiff, Nat.reduceEqDiff, Nat.reduceLT, Int.reduceNeg, Int.reduceAdd, Int.reduceSub, Int.reduceMul, Int.reduceLE, Int.reduceLT, Int.reduceEq, Int.reduceToNat, reduceCtorEq, IntWalk.i64_in, hh, hhq, List.all_append, List.take_length, *]) | ((conv in (callS _ _ 116 _ false) => skip); generalize hx : callS (runD tab noExt _) (_ ++ _ :: _) 116 _ false = X; obtain ⟨m, rfl, hm1, hm2⟩ := ex_pick hx (by omega) (by omega) hb hhp (by simp only [ht, plainH_nil, plainH_cons, plainH_append, plainB, List.all_cons, List.all_nil, Bool.and_self, Bool.and_true]) ; skip; clear hx; simp -implicitDefEqProofs (disch := omega) only [go_sem, Nat.reduceBEq, Nat.reduceAdd, Nat.reduceSub, Nat.reduceMul, Nat.reduceLeDiff, Nat.reduceEqDiff, Nat.reduceLT, Int.reduceNeg, Int.reduceAdd, Int.reduceSub, Int.reduceMul, Int.reduceLE, Int.reduceLT, Int.reduceEq, Int.reduceToNat, reduceCtorEq, IntWalk.i64_in, hh, hhq, List.all_append, List.take_length, *]) | ((first | rw [GuardI_ndec] | rw [CondC_ndec] | rw [GuardQ_ndec] | rw [GuardV_ndec] | rw [GuardI_dec] | rw [CondC_dec] | rw [GuardQ_dec] | rw [GuardV_dec] | rw [GuardI_nby] | rw [CondC_nby] | rw [GuardQ_nby] | rw [GuardV_nby] | rw [GuardQ_by] | rw [GuardI_by] | rw [GuardV_by] | rw [CondC_by]) <;> split <;> simp -implicitDefEqProofs (disch := omega) only [go_sem, Nat.reduceBEq, Nat.reduceAdd, Nat.reduceSub, Nat.reduceMul, Nat.reduceLeDiff, Nat.reduceEqDiff, Nat.reduceLT, Int.reduceNeg, Int.reduceAdd, Int.reduceSub, Int.reduceMul, Int.reduceLE, Int.reduceLT, Int.reduceEq, Int.reduceToNat, reduceCtorEq, IntWalk.i64_in, hh, hhq, List.all_append, List.take_length, *]))
  · have h6 : AllP IsCol (cont ++ [[.int .i64 (m - 1), .bool false], [.int .i64 1, .bool false], [.int .i64 1, .bool false]]) := by
      rw [show ∀ (a b c : List V), cont ++ [a, b, c] = ((cont ++ [a]) ++ [b]) ++ [c] from fun a b c => by simp]
      exact ((h1.snoc ⟨_, _, rfl⟩).snoc ⟨_, _, rfl⟩).snoc ⟨_, _, rfl⟩
    obtain ⟨cs, hcs⟩ := cols_of h6
    have hl := congrArg List.length hcs
    simp at hl
    exact ⟨cs, _, by rw [hcs], by omega, by omega, by omega, by omega⟩
  · obtain ⟨cs, hcs⟩ := cols_of h1
    have hl := congrArg List.length hcs
    simp at hl
    exact ⟨cs, _, by rw [hcs], by omega, by omega, by omega, by omega⟩
end Go.Proofs.Yteaojpfofifmnaa.PE
/- Rows and bags that are drawn. -/
set_option linter.unusedSimpArgs false
set_option linter.unusedVariables false
set_option maxHeartbeats 4000000
namespace Go.Proofs.Yteaojpfofifmnaa.PE
open Go.RowKit

def IsVal (x : List V) : Prop := ∃ (k n : Int) (s : ByteArray), s.size ≤ 20 ∧ x = [.int .i64 k, .int .i64 n, .str s]
theorem isVal_of {v : Val} (h : GV v) : IsVal v.cells := ⟨_, _, _, h, rfl⟩
theorem vals_of : ∀ {l : List (List V)}, AllP IsVal l → ∃ vs : List Val, l = vs.map Val.cells ∧ ∀ v ∈ vs, GV v
  | [], _ => ⟨[], rfl, fun _ h => by cases h⟩
  | x :: r, h => by
    obtain ⟨k, n, s, h1, h2⟩ := h x List.mem_cons_self
    obtain ⟨vs, h3, h4⟩ := vals_of (fun y hy => h y (List.mem_cons_of_mem _ hy))
    refine ⟨⟨k, n, s⟩ :: vs, by rw [h2, h3]; rfl, fun v hv => ?_⟩
    rcases List.mem_cons.1 hv with rfl | hv
    · exact h1
    · exact h4 v hv

def ValsPost (j q : Nat) (cont : List (List V)) (p : Int) (cont' : List (List V)) (p' : Int) : Prop := AllP IsVal cont' ∧ cont'.length = cont.length + j ∧ p ≤ p' ∧ p' ≤ p + q * j
theorem loop_fit {d : Nat} {hp t : Heap} {c c2 : Bool} {bs : List UInt8} {n : Int} {cs : List Col} (hb : bs.length ≤ 2000) (hhp : plainH hp = true) (ht : plainH t = true) (hcs : cs.length ≤ 1000) : ∀ (j K : Nat) {p k : Int} {st len : Nat} {cont : List (List V)} {Y : Out},
    LoopS (runD tab noExt (d + 2)) (drawI (runD tab noExt (d + 2))) [0, 1, 2, 7, 8] [0, 2, 7] L160x0 (hp.length + (t.length + 3)) K [(0, .ptr hp.length 0 0 0), (1, .sl c2 2 (cs.map Col.cells)), (2, .int .i64 n), (7, .ref (hp.length + (t.length + 2)) st 0 len false), (8, .int .i64 k)]
      (hp ++ .box [.sl c 1 (cellsOfBytes bs), .int .i64 (p)] :: (t ++ [.rows 0 3 [], .rows st 3 cont])) = Y →
    0 ≤ k → k + j = cs.length → j ≤ K → len = cont.length → cont.length + j ≤ 2000 → AllP IsVal cont → 0 ≤ p → p + 2 * j ≤ 1099511000000 → ∃ cont' st' p', Y = some (.exit 0, [(0, .ptr hp.length 0 0 0), (2, .int .i64 n), (7, .ref (hp.length + (t.length + 2)) st' 0 cont'.length false)],
      hp ++ .box [.sl c 1 (cellsOfBytes bs), .int .i64 (p')] :: (t ++ [.rows 0 3 [], .rows st' 3 cont'])) ∧ ValsPost j 2 cont p cont' p' := by
  have hh : ∀ n, t.all (hiB n) = true := fun n => plainH_hi ht n
  have hhq : ∀ n, hp.all (hiB n) = true := fun n => plainH_hi hhp n
  intro j
  induction j with
  | zero =>
    intro K p k st len cont Y hL hk0 hk hK hlen hs hc hp0 hq
    have hk' : k = cs.length := by omega
    subst hL hk' hlen
    rw [LoopS_eq]
    simp -implicitDefEqProofs only [go_sem, Nat.reduceBEq, Nat.reduceAdd, Nat.reduceSub, Nat.reduceMul, Nat.reduceLeDiff, Nat.reduceEqDiff, Nat.reduceLT, Int.reduceNeg, Int.reduceAdd, Int.reduceSub, Int.reduceMul, Int.reduceLE, Int.reduceLT, Int.reduceEq, Int.reduceToNat, reduceCtorEq, evL160x0, B160x0, hh, hhq, List.all_append, Int.lt_irrefl]
    exact ⟨cont, st, p, rfl, hc, rfl, by omega, by omega⟩
  | succ j ih =>
    intro K p k st len cont Y hL hk0 hk hK hlen hs hc hp0 hq
    obtain ⟨K, rfl⟩ : ∃ K', K = K' + 1 := ⟨K - 1, by omega⟩
    subst hL hlen
    have hk1 : k < cs.length := by omega
    have h1 : cont.length + 1 < 4294967296 := by omega
    have hat := at_getD (⟨0, false⟩ : Col) (show k.toNat < cs.length by omega)
    rw [LoopS_eq]
    simp -implicitDefEqProofs (disch := omega) only [go_sem, Nat.reduceBEq, Nat.reduceAdd, Nat.reduceSub, Nat.reduceMul, Nat.reduceLeDiff, Nat.reduceEqDiff, Nat.reduceLT, Int.reduceNeg, Int.reduceAdd, Int.reduceSub, Int.reduceMul, Int.reduceLE, Int.reduceLT, Int.reduceEq, Int.reduceToNat, reduceCtorEq, evL160x0, B160x0, hh, hhq, hk0, hk1, hat, Col.cells, List.all_append]
    generalize hx : callS (runD tab noExt _) (_ ++ _ :: _) 163 _ _ = X
    obtain ⟨v, p1, rfl, g1, g2, g3⟩ := ex_like hx (by omega) (by omega) hb hhp (by simp only [ht, plainH_nil, plainH_cons, plainH_append, plainB, List.all_cons, List.all_nil, Bool.and_self, Bool.and_true])
    clear hx
    simp -implicitDefEqProofs (disch := omega) only [go_sem, Nat.reduceBEq, Nat.reduceAdd, Nat.reduceSub, Nat.reduceMul, Nat.reduceLeDiff, Nat.reduceEqDiff, Nat.reduceLT, Int.reduceNeg, Int.reduceAdd, Int.reduceSub, Int.reduceMul, Int.reduceLE, Int.reduceLT, Int.reduceEq, Int.reduceToNat, reduceCtorEq, hh, hhq, List.all_append, IntWalk.i64_in, Val.enc, h1]
    generalize hL : LoopS _ _ _ _ _ _ _ _ _ = Y
    obtain ⟨cont', st', p', rfl, h2, h3, h4, h5⟩ := ih K hL (by omega) (by omega) (by omega) (by simp) (by simp; omega) (hc.snoc (isVal_of g3)) (by omega) (by omega)
    exact ⟨cont', st', p', rfl, h2, by simp at h3; omega, by omega, by omega⟩

theorem vals_at {l : List (List V)} (h : AllP IsVal l) {i : Nat} (hi : i < l.length) : ∃ (k n : Int) (s : ByteArray), l[i]? = some [.int .i64 k, .int .i64 n, .str s] := by
  obtain ⟨k, n, s, _, h2⟩ := h (l[i]) (List.getElem_mem hi)
  exact ⟨k, n, s, by rw [List.getElem?_eq_getElem hi, h2]⟩
theorem AllP.set {P : List V → Prop} {l : List (List V)} {x : List V} (h : AllP P l) (hx : P x) (i : Nat) : AllP P (l.set i x) := fun y hy => by
  rcases List.mem_or_eq_of_mem_set hy with h1 | h1
  · exact h y h1
  · rw [h1]; exact hx
/-- A drawn row. -/
def GR (vs : List Val) : Prop := vs.length ≤ 20 ∧ ∀ v ∈ vs, GV v
-- find160
theorem ex_fit {d : Nat} {hp t : Heap} {c c2 : Bool} {bs : List UInt8} {p n : Int} {cs : List Col} {X : Option (V × Heap)} (hx : callS (runD tab noExt (d + 4)) (hp ++ .box [.sl c 1 (cellsOfBytes bs), .int .i64 (p)] :: t) 160 [.ptr hp.length 0 0 0, .sl c2 2 (cs.map Col.cells), .int .i64 n] false = X)
    (hp0 : 0 ≤ p) (hq : p ≤ 1099500000000) (hb : bs.length ≤ 2000) (hhp : plainH hp = true) (ht : plainH t = true) (hcs : cs.length ≤ 10) :
    ∃ (vs : List Val) (p' : Int), X = some (.sl false 3 (vs.map Val.cells), hp ++ .box [.sl c 1 (cellsOfBytes bs), .int .i64 (p')] :: t) ∧ p ≤ p' ∧ p' ≤ p + 100 ∧ GR vs ∧ (n ≤ 0 → vs.length = cs.length) := by
  subst hx
  have hh : ∀ n, t.all (hiB n) = true := fun n => plainH_hi ht n
  have hhq : ∀ n, hp.all (hiB n) = true := fun n => plainH_hi hhp n
  rw [callS_eq, runD_eq find160 _ _ _ (by simp)]
  simp -implicitDefEqProofs (disch := omega) only [go_sem, Nat.reduceBEq, Nat.reduceAdd, Nat.reduceSub, Nat.reduceMul, Nat.reduceLeDiff, Nat.reduceEqDiff, Nat.reduceLT, Int.reduceNeg, Int.reduceAdd, Int.reduceSub, Int.reduceMul, Int.reduceLE, Int.reduceLT, Int.reduceEq, Int.reduceToNat, reduceCtorEq, hh, hhq, List.all_append]
  generalize hx : LoopS _ _ _ _ _ _ _ _ _ = Y
  obtain ⟨cont, st, p1, rfl, h1, h2, h3, h4⟩ := loop_fit hb hhp ht (by omega) cs.length _ hx (by omega) (by omega) (by omega) rfl (by simp; omega) AllP.nil (by omega) (by omega)
  clear hx
  simp only [List.length_nil, Nat.zero_add] at h2
  have h2a : cont.length ≤ 10 := by omega
  have h4' : p1 ≤ p + 20 := by omega
  have h5 : cont.length + 3 < 4294967296 := by omega
  have h6 : cont.length + 1 < 4294967296 := by omega
  have h2b : cont.length ≤ cs.length := by omega
  have h2c : cs.length ≤ cont.length := by omega
  clear h2 h4
  simp -implicitDefEqProofs (disch := omega) only [go_sem, Nat.reduceBEq, Nat.reduceAdd, Nat.reduceSub, Nat.reduceMul, Nat.reduceLeDiff, Nat.reduceEqDiff, Nat.reduceLT, Int.reduceNeg, Int.reduceAdd, Int.reduceSub, Int.reduceMul, Int.reduceLE, Int.reduceLT, Int.reduceEq, Int.reduceToNat, reduceCtorEq, hh, hhq, List.all_append]
  have fin : ∀ (l : List (List V)) (p' : Int), AllP IsVal l → l.length ≤ 20 → p ≤ p' → p' ≤ p + 100 → (n ≤ 0 → l.length = cs.length) → ∃ (vs : List Val) (p'' : Int), (some (.sl false 3 l, hp ++ .box [.sl c 1 (cellsOfBytes bs), .int .i64 (p')] :: t) : Option (V × Heap)) = some (.sl false 3 (vs.map Val.cells), hp ++ .box [.sl c 1 (cellsOfBytes bs), .int .i64 (p'')] :: t) ∧ p ≤ p'' ∧ p'' ≤ p + 100 ∧ GR vs ∧ (n ≤ 0 → vs.length = cs.length) := by
    intro l p' h1 h2 h3 h4 h5
    obtain ⟨vs, rfl, hv⟩ := vals_of h1
    simp only [List.length_map] at h2 h5
    exact ⟨vs, p', rfl, h3, h4, ⟨h2, hv⟩, h5⟩
  repeat' (first | ((conv in (callS _ _ 118 _ false) => skip); generalize hx : callS (runD tab noExt _) (_ ++ _ :: _) 118 _ false = X; obtain ⟨b, p', rfl, hm1, hm2, hm3⟩ := ex_odd hx (by omega) (by omega) hb hhp (by simp only [ht, plainH_nil, plainH_cons, plainH_append, plainB, List.all_cons, List.all_nil, Bool.and_self, Bool.and_true]) ; skip; clear hx; simp -implicitDefEqProofs (disch := omega) only [go_sem, Nat.reduceBEq, Nat.reduceAdd, Nat.reduceSub, Nat.reduceMul, Nat.reduceLeDiff, Nat.reduceEqDiff, Nat.reduceLT, Int.reduceNeg, Int.reduceAdd, Int.reduceSub, Int.reduceMul, Int.reduceLE, Int.reduceLT, Int.reduceEq, Int.reduceToNat, reduceCtorEq, IntWalk.i64_in, hh, hhq, List.all_append, List.take_length, Val.enc, List.length_set, List.contains_nil, *]) | ((conv in (callS _ _ 116 _ false) => skip); generalize hx : callS (runD tab noExt _) (_ ++ _ :: _) 116 [_, .int .i64 (cont.length : Int)] false = X; obtain ⟨m, rfl, hm1, hm2⟩ := ex_pick hx (by omega) (by omega) hb hhp (by simp only [ht, plainH_nil, plainH_cons, plainH_append, plainB, List.all_cons, List.all_nil, Bool.and_self, Bool.and_true]) ; skip; clear hx; have hlt : m.toNat < cont.length := (by omega); obtain ⟨y1, y2, y3, hy⟩ := vals_at h1 hlt; simp -implicitDefEqProofs (disch := omega) only [go_sem, Nat.reduceBEq, Nat.reduceAdd, Nat.reduceSub, Nat.reduceMul, Nat.reduceLeDiff, Nat.reduceEqDiff, Nat.reduceLT, Int.reduceNeg, Int.reduceAdd, Int.reduceSub, Int.reduceMul, Int.reduceLE, Int.reduceLT, Int.reduceEq, Int.reduceToNat, reduceCtorEq, IntWalk.i64_in, hh, hhq, List.all_append, List.take_length, Val.enc, List.length_set, List.contains_nil, *]) | ((conv in (callS _ _ 116 _ false) => skip); generalize hx : callS (runD tab noExt _) (_ ++ _ :: _) 116 _ false = X; obtain ⟨m, rfl, hm1, hm2⟩ := ex_pick hx (by omega) (by omega) hb hhp (by simp only [ht, plainH_nil, plainH_cons, plainH_append, plainB, List.all_cons, List.all_nil, Bool.and_self, Bool.and_true]) ; skip; clear hx; simp -implicitDefEqProofs (disch := omega) only [go_sem, Nat.reduceBEq, Nat.reduceAdd, Nat.reduceSub, Nat.reduceMul, Nat.reduceLeDiff, Nat.reduceEqDiff, Nat.reduceLT, Int.reduceNeg, Int.reduceAdd, Int.reduceSub, Int.reduceMul, Int.reduceLE, Int.reduceLT, Int.reduceEq, Int.reduceToNat, reduceCtorEq, IntWalk.i64_in, hh, hhq, List.all_append, List.take_length, Val.enc, List.length_set, List.contains_nil, *]) | ((conv in (callS _ _ 164 _ false) => skip); generalize hx : callS (runD tab noExt _) (_ ++ _ :: _) 164 _ false = X; obtain ⟨v, p', rfl, hv1, hv2, hv3⟩ := ex_value hx (by omega) (by omega) hb hhp (by simp only [ht, plainH_nil, plainH_cons, plainH_append, plainB, List.all_cons, List.all_nil, Bool.and_self, Bool.and_true]) ; skip; clear hx; simp -implicitDefEqProofs (disch := omega) only [go_sem, Nat.reduceBEq, Nat.reduceAdd, Nat.reduceSub, Nat.reduceMul, Nat.reduceLeDiff, Nat.reduceEqDiff, Nat.reduceLT, Int.reduceNeg, Int.reduceAdd, Int.reduceSub, Int.reduceMul, Int.reduceLE, Int.reduceLT, Int.reduceEq, Int.reduceToNat, reduceCtorEq, IntWalk.i64_in, hh, hhq, List.all_append, List.take_length, Val.enc, List.length_set, List.contains_nil, *]) | ((first | rw [GuardI_ndec] | rw [CondC_ndec] | rw [GuardQ_ndec] | rw [GuardV_ndec] | rw [GuardI_dec] | rw [CondC_dec] | rw [GuardQ_dec] | rw [GuardV_dec] | rw [GuardI_nby] | rw [CondC_nby] | rw [GuardQ_nby] | rw [GuardV_nby] | rw [GuardQ_by] | rw [GuardI_by] | rw [GuardV_by] | rw [CondC_by]) <;> split <;> simp -implicitDefEqProofs (disch := omega) only [go_sem, Nat.reduceBEq, Nat.reduceAdd, Nat.reduceSub, Nat.reduceMul, Nat.reduceLeDiff, Nat.reduceEqDiff, Nat.reduceLT, Int.reduceNeg, Int.reduceAdd, Int.reduceSub, Int.reduceMul, Int.reduceLE, Int.reduceLT, Int.reduceEq, Int.reduceToNat, reduceCtorEq, IntWalk.i64_in, hh, hhq, List.all_append, List.take_length, Val.enc, List.length_set, List.contains_nil, *]))
  · exact fin _ _ (h1.snoc ⟨_, _, _, Nat.zero_le _, rfl⟩) (by simp; omega) (by omega) (by omega) (fun h => by have := hm3 h; simp_all)
  · rw [show ∀ x, (cont.set m.toNat x).take cont.length = cont.set m.toNat x from fun x => List.take_of_length_le (by simp)]
    exact fin _ _ (h1.set (isVal_of hv3) _) (by simp; omega) (by omega) (by omega) (fun h => by have := hm3 h; simp_all)
  · skip
    rw [show ∀ (a b c : List V), cont ++ [a, b, c] = ((cont ++ [a]) ++ [b]) ++ [c] from fun a b c => by simp]
    refine fin _ _ (((h1.snoc ?_).snoc ?_).snoc ?_) (by simp; omega) (by omega) (by omega) (fun h => by have := hm3 h; simp_all)
    all_goals exact isVal_of (by assumption)

-- find152
def IsRow1 (x : List V) : Prop := ∃ (c : Bool) (vs : List Val), GR vs ∧ x = [.sl c 3 (vs.map Val.cells)]
def RowsPost (j : Nat) (cont : List (List V)) (p : Int) (cont' : List (List V)) (p' : Int) : Prop := AllP IsRow1 cont' ∧ cont'.length = cont.length + j ∧ p ≤ p' ∧ p' ≤ p + 110 * j
def BagPost (rs : List Row) : Prop := rs.length ≤ 6 ∧ ∀ r ∈ rs, GR r.vs
end Go.Proofs.Yteaojpfofifmnaa.PE
/- Writes, entries and logs that are drawn. -/
set_option linter.unusedSimpArgs false
set_option linter.unusedVariables false
set_option maxHeartbeats 4000000
namespace Go.Proofs.Yteaojpfofifmnaa.PE
open Go.RowKit

-- find150
theorem ex_any {d : Nat} {hp t : Heap} {c : Bool} {bs : List UInt8} {p n : Int} {X : Option (V × Heap)} (hx : callS (runD tab noExt (d + 5)) (hp ++ .box [.sl c 1 (cellsOfBytes bs), .int .i64 (p)] :: t) 150 [.ptr hp.length 0 0 0, .int .i64 n] false = X)
    (hp0 : 0 ≤ p) (hq : p ≤ 1099490000000) (hb : bs.length ≤ 2000) (hhp : plainH hp = true) (ht : plainH t = true) :
    ∃ (cl : Bool) (vs : List Val) (p' : Int), X = some (.sl cl 3 (vs.map Val.cells), hp ++ .box [.sl c 1 (cellsOfBytes bs), .int .i64 (p')] :: t) ∧ p ≤ p' ∧ p' ≤ p + 120 ∧ GR vs := by
  subst hx
  have hh : ∀ n, t.all (hiB n) = true := fun n => plainH_hi ht n
  have hhq : ∀ n, hp.all (hiB n) = true := fun n => plainH_hi hhp n
  rw [callS_eq, runD_eq find150 _ _ _ (by simp)]
  simp -implicitDefEqProofs only [go_sem, Nat.reduceBEq, Nat.reduceAdd, Nat.reduceSub, Nat.reduceMul, Nat.reduceLeDiff, Nat.reduceEqDiff, Nat.reduceLT, Int.reduceNeg, Int.reduceAdd, Int.reduceSub, Int.reduceMul, Int.reduceLE, Int.reduceLT, Int.reduceEq, Int.reduceToNat, reduceCtorEq]
  generalize hx : callS (runD tab noExt _) _ 161 _ _ = X
  obtain ⟨cs, p1, rfl, h1, h2, h3, h4⟩ := ex_columns hx (by omega) (by omega) hb hhp ht
  clear hx
  simp -implicitDefEqProofs (disch := omega) only [go_sem, Nat.reduceBEq, Nat.reduceAdd, Nat.reduceSub, Nat.reduceMul, Nat.reduceLeDiff, Nat.reduceEqDiff, Nat.reduceLT, Int.reduceNeg, Int.reduceAdd, Int.reduceSub, Int.reduceMul, Int.reduceLE, Int.reduceLT, Int.reduceEq, Int.reduceToNat, reduceCtorEq, hh, hhq, List.all_append]
  generalize hx : callS (runD tab noExt _) _ 160 _ _ = X
  obtain ⟨vs, p2, rfl, h5, h6, h7, h8⟩ := ex_fit hx (by omega) (by omega) hb hhp ht (by omega)
  clear hx
  simp -implicitDefEqProofs (disch := omega) only [go_sem, Nat.reduceBEq, Nat.reduceAdd, Nat.reduceSub, Nat.reduceMul, Nat.reduceLeDiff, Nat.reduceEqDiff, Nat.reduceLT, Int.reduceNeg, Int.reduceAdd, Int.reduceSub, Int.reduceMul, Int.reduceLE, Int.reduceLT, Int.reduceEq, Int.reduceToNat, reduceCtorEq, hh, hhq, List.all_append]
  exact ⟨_, vs, p2, rfl, by omega, by omega, h7⟩
-- find117
theorem ex_writes {d : Nat} {hp t : Heap} {c : Bool} {bs : List UInt8} {p n : Int} {X : Option (V × Heap)} (hx : callS (runD tab noExt (d + 6)) (hp ++ .box [.sl c 1 (cellsOfBytes bs), .int .i64 (p)] :: t) 117 [.ptr hp.length 0 0 0, .int .i64 n] false = X)
    (hp0 : 0 ≤ p) (hq : p ≤ 1099480000000) (hb : bs.length ≤ 2000) (hhp : plainH hp = true) (ht : plainH t = true) :
    ∃ (ws : List Wr) (p' : Int), X = some (.sl false 3 (ws.map Wr.cells), hp ++ .box [.sl c 1 (cellsOfBytes bs), .int .i64 (p')] :: t) ∧ p ≤ p' ∧ p' ≤ p + 200 ∧ WrsPost 6 ws := by
  subst hx
  have hh : ∀ n, t.all (hiB n) = true := fun n => plainH_hi ht n
  have hhq : ∀ n, hp.all (hiB n) = true := fun n => plainH_hi hhp n
  rw [callS_eq, runD_eq find117 _ _ _ (by simp)]
  simp -implicitDefEqProofs (disch := omega) only [go_sem, Nat.reduceBEq, Nat.reduceAdd, Nat.reduceSub, Nat.reduceMul, Nat.reduceLeDiff, Nat.reduceEqDiff, Nat.reduceLT, Int.reduceNeg, Int.reduceAdd, Int.reduceSub, Int.reduceMul, Int.reduceLE, Int.reduceLT, Int.reduceEq, Int.reduceToNat, reduceCtorEq, hh, hhq, List.all_append]
  generalize hx : LoopS _ _ _ _ _ _ _ _ _ = Y
  obtain ⟨ws, st, p1, rfl, h1, h2, h3⟩ := loop_writes (d := d + 3) hb hhp ht 5 _ 0 (ws := []) hx (by omega) (by omega) rfl ⟨by simp, fun _ h => by cases h⟩ (by omega) (by omega)
  clear hx
  have hw5 := h1.1
  have hsm : ws.length + 1 < 4294967296 := by omega
  have htm : ∀ x : List V, List.take (ws.length + 1) (ws.map Wr.cells ++ [x]) = ws.map Wr.cells ++ [x] := fun x => List.take_of_length_le (by simp)
  simp -implicitDefEqProofs (disch := omega) only [go_sem, Nat.reduceBEq, Nat.reduceAdd, Nat.reduceSub, Nat.reduceMul, Nat.reduceLeDiff, Nat.reduceEqDiff, Nat.reduceLT, Int.reduceNeg, Int.reduceAdd, Int.reduceSub, Int.reduceMul, Int.reduceLE, Int.reduceLT, Int.reduceEq, Int.reduceToNat, reduceCtorEq, hh, hhq, List.all_append]
  repeat' (first | ((conv in (callS _ _ 118 _ false) => skip); generalize hx : callS (runD tab noExt _) (_ ++ _ :: _) 118 _ false = X; obtain ⟨b, p', rfl, hm1, hm2, hm3⟩ := ex_odd hx (by omega) (by omega) hb hhp (by simp only [ht, plainH_nil, plainH_cons, plainH_append, plainB, List.all_cons, List.all_nil, Bool.and_self, Bool.and_true]) ; skip; clear hx; simp -implicitDefEqProofs (disch := omega) only [go_sem, Nat.reduceBEq, Nat.reduceAdd, Nat.reduceSub, Nat.reduceMul, Nat.reduceLeDiff, Nat.reduceEqDiff, Nat.reduceLT, Int.reduceNeg, Int.reduceAdd, Int.reduceSub, Int.reduceMul, Int.reduceLE, Int.reduceLT, Int.reduceEq, Int.reduceToNat, reduceCtorEq, IntWalk.i64_in, hh, hhq, List.all_append, take_map_len, elemsOf, elemOf, frzs, refs, refC, refsV, hsm, htm, *]) | ((conv in (callS _ _ 149 _ false) => skip); generalize hx : callS (runD tab noExt _) (_ ++ _ :: _) 149 _ false = X; obtain ⟨m2, p', rfl, hv1, hv2⟩ := ex_small hx (by omega) (by omega) hb hhp (by simp only [ht, plainH_nil, plainH_cons, plainH_append, plainB, List.all_cons, List.all_nil, Bool.and_self, Bool.and_true]) ; skip; clear hx; simp -implicitDefEqProofs (disch := omega) only [go_sem, Nat.reduceBEq, Nat.reduceAdd, Nat.reduceSub, Nat.reduceMul, Nat.reduceLeDiff, Nat.reduceEqDiff, Nat.reduceLT, Int.reduceNeg, Int.reduceAdd, Int.reduceSub, Int.reduceMul, Int.reduceLE, Int.reduceLT, Int.reduceEq, Int.reduceToNat, reduceCtorEq, IntWalk.i64_in, hh, hhq, List.all_append, take_map_len, elemsOf, elemOf, frzs, refs, refC, refsV, hsm, htm, *]) | ((conv in (callS _ _ 150 _ false) => skip); generalize hx : callS (runD tab noExt _) (_ ++ _ :: _) 150 _ false = X; obtain ⟨cl2, vs2, p', rfl, hv1, hv2, hgr⟩ := ex_any hx (by omega) (by omega) hb hhp (by simp only [ht, plainH_nil, plainH_cons, plainH_append, plainB, List.all_cons, List.all_nil, Bool.and_self, Bool.and_true]) ; skip; clear hx; simp -implicitDefEqProofs (disch := omega) only [go_sem, Nat.reduceBEq, Nat.reduceAdd, Nat.reduceSub, Nat.reduceMul, Nat.reduceLeDiff, Nat.reduceEqDiff, Nat.reduceLT, Int.reduceNeg, Int.reduceAdd, Int.reduceSub, Int.reduceMul, Int.reduceLE, Int.reduceLT, Int.reduceEq, Int.reduceToNat, reduceCtorEq, IntWalk.i64_in, hh, hhq, List.all_append, take_map_len, elemsOf, elemOf, frzs, refs, refC, refsV, hsm, htm, *]) | ((conv in (callS _ _ 116 _ false) => skip); generalize hx : callS (runD tab noExt _) (_ ++ _ :: _) 116 _ false = X; obtain ⟨m, rfl, hm1, hm2⟩ := ex_pick hx (by omega) (by omega) hb hhp (by simp only [ht, plainH_nil, plainH_cons, plainH_append, plainB, List.all_cons, List.all_nil, Bool.and_self, Bool.and_true]) ; skip; clear hx; simp -implicitDefEqProofs (disch := omega) only [go_sem, Nat.reduceBEq, Nat.reduceAdd, Nat.reduceSub, Nat.reduceMul, Nat.reduceLeDiff, Nat.reduceEqDiff, Nat.reduceLT, Int.reduceNeg, Int.reduceAdd, Int.reduceSub, Int.reduceMul, Int.reduceLE, Int.reduceLT, Int.reduceEq, Int.reduceToNat, reduceCtorEq, IntWalk.i64_in, hh, hhq, List.all_append, take_map_len, elemsOf, elemOf, frzs, refs, refC, refsV, hsm, htm, *]) | ((first | rw [GuardI_ndec] | rw [CondC_ndec] | rw [GuardQ_ndec] | rw [GuardV_ndec] | rw [GuardI_dec] | rw [CondC_dec] | rw [GuardQ_dec] | rw [GuardV_dec] | rw [GuardI_nby] | rw [CondC_nby] | rw [GuardQ_nby] | rw [GuardV_nby] | rw [GuardQ_by] | rw [GuardI_by] | rw [GuardV_by] | rw [CondC_by]) <;> split <;> simp -implicitDefEqProofs (disch := omega) only [go_sem, Nat.reduceBEq, Nat.reduceAdd, Nat.reduceSub, Nat.reduceMul, Nat.reduceLeDiff, Nat.reduceEqDiff, Nat.reduceLT, Int.reduceNeg, Int.reduceAdd, Int.reduceSub, Int.reduceMul, Int.reduceLE, Int.reduceLT, Int.reduceEq, Int.reduceToNat, reduceCtorEq, IntWalk.i64_in, hh, hhq, List.all_append, take_map_len, elemsOf, elemOf, frzs, refs, refC, refsV, hsm, htm, *]))
  · refine ⟨ws ++ [⟨m - 1, ⟨true, []⟩, false⟩], _, by rw [List.map_append]; rfl, by omega, by omega, h1.snoc GS.nil⟩
  · refine ⟨ws ++ [⟨4, ⟨true, [⟨1, m2, ⟨#[]⟩⟩]⟩, true⟩], _, by rw [List.map_append]; rfl, by omega, by omega, h1.snoc ⟨by simp, fun v hv => by rw [List.mem_singleton.1 hv]; exact Nat.zero_le _⟩⟩
  · refine ⟨ws ++ [⟨0, ⟨cl2, vs2⟩, false⟩], _, by rw [List.map_append]; rfl, by omega, by omega, h1.snoc (w := ⟨0, ⟨cl2, vs2⟩, false⟩) hgr⟩
  · exact ⟨ws, _, rfl, by omega, by omega, h1.skip⟩
-- find70
def IsEnt1 (x : List V) : Prop := ∃ e : Ent, WrsPost 6 e.ws ∧ x = e.cells
theorem ents_of : ∀ {l : List (List V)}, AllP IsEnt1 l → ∃ es : List Ent, l = es.map Ent.cells ∧ ∀ e ∈ es, WrsPost 6 e.ws
  | [], _ => ⟨[], rfl, fun _ h => by cases h⟩
  | x :: r, h => by
    obtain ⟨e, h1, h2⟩ := h x List.mem_cons_self
    obtain ⟨es, h3, h4⟩ := ents_of (fun y hy => h y (List.mem_cons_of_mem _ hy))
    refine ⟨e :: es, by rw [h2, h3]; rfl, fun v hv => ?_⟩
    rcases List.mem_cons.1 hv with rfl | hv
    · exact h1
    · exact h4 v hv
theorem ents_at {l : List (List V)} (h : AllP IsEnt1 l) {i : Nat} (hi : i < l.length) : ∃ (t : Int) (wc : Bool) (ws : List Wr), WrsPost 6 ws ∧ l[i]? = some [.int .i64 t, .sl wc 3 (ws.map Wr.cells)] := by
  obtain ⟨⟨t, wc, ws⟩, h1, h2⟩ := h (l[i]) (List.getElem_mem hi)
  exact ⟨t, wc, ws, h1, by rw [List.getElem?_eq_getElem hi, h2]; rfl⟩
-- find90
theorem loop_log {d : Nat} {hp t : Heap} {c : Bool} {bs : List UInt8} {n : Int} (hb : bs.length ≤ 2000) (hhp : plainH hp = true) (ht : plainH t = true) : ∀ (j K : Nat) {p k time : Int} {st len : Nat} {cont : List (List V)} {Y : Out},
    LoopS (runD tab noExt (d + 6)) (drawI (runD tab noExt (d + 6))) [0, 1, 5, 6, 7] [0, 1, 5] L90x0 (hp.length + (t.length + 3)) K [(0, .ptr hp.length 0 0 0), (1, .int .i64 n), (5, .ref (hp.length + (t.length + 2)) st 0 len false), (6, .int .i64 time), (7, .int .i64 k)]
      (hp ++ .box [.sl c 1 (cellsOfBytes bs), .int .i64 (p)] :: (t ++ [.rows 0 2 [], .rows st 2 cont])) = Y →
    k = j → j ≤ K → len = cont.length → cont.length + j ≤ 10 → AllP IsEnt1 cont → 0 ≤ p → p + 210 * j ≤ 1099470000000 → 0 ≤ time → time + 4 * j ≤ 100 → ∃ cont' st' p', Y = some (.exit 0, [(0, .ptr hp.length 0 0 0), (1, .int .i64 n), (5, .ref (hp.length + (t.length + 2)) st' 0 cont'.length false)],
      hp ++ .box [.sl c 1 (cellsOfBytes bs), .int .i64 (p')] :: (t ++ [.rows 0 2 [], .rows st' 2 cont'])) ∧ AllP IsEnt1 cont' ∧ cont'.length = cont.length + j ∧ p ≤ p' ∧ p' ≤ p + 210 * j := by
  have hh : ∀ n, t.all (hiB n) = true := fun n => plainH_hi ht n
  have hhq : ∀ n, hp.all (hiB n) = true := fun n => plainH_hi hhp n
  intro j
  induction j with
  | zero =>
    intro K p k time st len cont Y hL hk hK hlen hs hc hp0 hq ht0 ht1
    subst hL hk hlen
    rw [LoopS_eq]
    simp -implicitDefEqProofs only [go_sem, Nat.reduceBEq, Nat.reduceAdd, Nat.reduceSub, Nat.reduceMul, Nat.reduceLeDiff, Nat.reduceEqDiff, Nat.reduceLT, Int.reduceNeg, Int.reduceAdd, Int.reduceSub, Int.reduceMul, Int.reduceLE, Int.reduceLT, Int.reduceEq, Int.reduceToNat, reduceCtorEq, evL90x0, B90x0, hh, hhq, List.all_append, Int.lt_irrefl, Int.natCast_zero]
    exact ⟨cont, st, p, rfl, hc, rfl, by omega, by omega⟩
  | succ j ih =>
    intro K p k time st len cont Y hL hk hK hlen hs hc hp0 hq ht0 ht1
    obtain ⟨K, rfl⟩ : ∃ K', K = K' + 1 := ⟨K - 1, by omega⟩
    subst hL hk hlen
    have hk0 : (0 : Int) < (j : Int) + 1 := by omega
    have h1 : cont.length + 1 < 4294967296 := by omega
    rw [LoopS_eq]
    simp -implicitDefEqProofs (disch := omega) only [go_sem, Nat.reduceBEq, Nat.reduceAdd, Nat.reduceSub, Nat.reduceMul, Nat.reduceLeDiff, Nat.reduceEqDiff, Nat.reduceLT, Int.reduceNeg, Int.reduceAdd, Int.reduceSub, Int.reduceMul, Int.reduceLE, Int.reduceLT, Int.reduceEq, Int.reduceToNat, reduceCtorEq, evL90x0, B90x0, hh, hhq, hk0, List.all_append]
    repeat' (first | ((conv in (callS _ _ 117 _ false) => skip); generalize hx : callS (runD tab noExt _) (_ ++ _ :: _) 117 _ false = X; obtain ⟨ws, p', rfl, hv1, hv2, hgw⟩ := ex_writes (d := d) hx (by omega) (by omega) hb hhp (by simp only [ht, plainH_nil, plainH_cons, plainH_append, plainB, List.all_cons, List.all_nil, Bool.and_self, Bool.and_true]) ; skip; clear hx; simp -implicitDefEqProofs (disch := omega) only [go_sem, Nat.reduceBEq, Nat.reduceAdd, Nat.reduceSub, Nat.reduceMul, Nat.reduceLeDiff, Nat.reduceEqDiff, Nat.reduceLT, Int.reduceNeg, Int.reduceAdd, Int.reduceSub, Int.reduceMul, Int.reduceLE, Int.reduceLT, Int.reduceEq, Int.reduceToNat, reduceCtorEq, IntWalk.i64_in, hh, hhq, List.all_append, elemsOf, elemOf, frzs, refs, refC, refsV, h1, hk0, *]) | ((conv in (callS _ _ 116 _ false) => skip); generalize hx : callS (runD tab noExt _) (_ ++ _ :: _) 116 _ false = X; obtain ⟨m, rfl, hm1, hm2⟩ := ex_pick hx (by omega) (by omega) hb hhp (by simp only [ht, plainH_nil, plainH_cons, plainH_append, plainB, List.all_cons, List.all_nil, Bool.and_self, Bool.and_true]) ; skip; clear hx; simp -implicitDefEqProofs (disch := omega) only [go_sem, Nat.reduceBEq, Nat.reduceAdd, Nat.reduceSub, Nat.reduceMul, Nat.reduceLeDiff, Nat.reduceEqDiff, Nat.reduceLT, Int.reduceNeg, Int.reduceAdd, Int.reduceSub, Int.reduceMul, Int.reduceLE, Int.reduceLT, Int.reduceEq, Int.reduceToNat, reduceCtorEq, IntWalk.i64_in, hh, hhq, List.all_append, elemsOf, elemOf, frzs, refs, refC, refsV, h1, hk0, *]) | ((first | rw [GuardI_ndec] | rw [CondC_ndec] | rw [GuardQ_ndec] | rw [GuardV_ndec] | rw [GuardI_dec] | rw [CondC_dec] | rw [GuardQ_dec] | rw [GuardV_dec] | rw [GuardI_nby] | rw [CondC_nby] | rw [GuardQ_nby] | rw [GuardV_nby] | rw [GuardQ_by] | rw [GuardI_by] | rw [GuardV_by] | rw [CondC_by]) <;> split <;> simp -implicitDefEqProofs (disch := omega) only [go_sem, Nat.reduceBEq, Nat.reduceAdd, Nat.reduceSub, Nat.reduceMul, Nat.reduceLeDiff, Nat.reduceEqDiff, Nat.reduceLT, Int.reduceNeg, Int.reduceAdd, Int.reduceSub, Int.reduceMul, Int.reduceLE, Int.reduceLT, Int.reduceEq, Int.reduceToNat, reduceCtorEq, IntWalk.i64_in, hh, hhq, List.all_append, elemsOf, elemOf, frzs, refs, refC, refsV, h1, hk0, *]))
    generalize hL : LoopS _ _ _ _ _ _ _ _ _ = Y
    obtain ⟨cont', st', p2, h2, h3, h4, h5, h6⟩ := ih K (cont := cont ++ [Ent.cells ⟨_, false, ws⟩]) hL (by omega) (by omega) (by simp) (by simp; omega) (hc.snoc ⟨_, hgw, rfl⟩) (by omega) (by omega) (by omega) (by omega)
    exact ⟨cont', st', p2, h2, h3, by simp at h4; omega, by omega, by omega⟩
end Go.Proofs.Yteaojpfofifmnaa.PE
/- The reader is opened; a fixed answer. -/
set_option linter.unusedSimpArgs false
set_option linter.unusedVariables false
set_option maxHeartbeats 4000000
namespace Go.Proofs.Yteaojpfofifmnaa.PE
open Go.RowKit

theorem ofBytes_take (l : List UInt8) (k : Nat) : (cellsOfBytes l).take k = cellsOfBytes (l.take k) := by simp [cellsOfBytes, List.map_take]
-- find71
theorem ex_open {d : Nat} {h : Heap} {c : Bool} {l : List UInt8} {X : Option (V × Heap)} (hx : callS (runD tab noExt (d + 1)) h 71 [.sl c 1 (cellsOfBytes l)] true = X) (hh : plainH h = true) :
    ∃ (c' : Bool) (bs : List UInt8), X = some (.ptr h.length 0 0 0, h ++ [.box [.sl c' 1 (cellsOfBytes bs), .int .i64 0]]) ∧ bs.length ≤ 2000 := by
  subst hx
  have hh : ∀ n, h.all (hiB n) = true := fun n => plainH_hi hh n
  rw [callS_eq, runD_eq find71 _ _ _ (by simp)]
  by_cases h1 : (2000 : Int) < l.length
  · have h2 : (2000 : Int) ≤ l.length := by omega
    have h3 : ((2000 : Int) = l.length) = False := eq_false (by omega)
    simp -implicitDefEqProofs (disch := omega) only [go_sem, Nat.reduceBEq, Nat.reduceAdd, Nat.reduceSub, Nat.reduceMul, Nat.reduceLeDiff, Nat.reduceEqDiff, Nat.reduceLT, Int.reduceNeg, Int.reduceAdd, Int.reduceSub, Int.reduceMul, Int.reduceLE, Int.reduceLT, Int.reduceEq, Int.reduceToNat, reduceCtorEq, hh, List.all_append, ofBytes_len, h1, h2, h3, Option.getD_some, Option.isSome_none, Option.isSome_some, Option.isNone_some, List.drop_zero, ofBytes_take, Nat.sub_zero, Int.toNat_zero, Nat.le_refl, Int.le_refl]
    exact ⟨_, _, rfl, by simp; omega⟩
  · simp -implicitDefEqProofs (disch := omega) only [go_sem, Nat.reduceBEq, Nat.reduceAdd, Nat.reduceSub, Nat.reduceMul, Nat.reduceLeDiff, Nat.reduceEqDiff, Nat.reduceLT, Int.reduceNeg, Int.reduceAdd, Int.reduceSub, Int.reduceMul, Int.reduceLE, Int.reduceLT, Int.reduceEq, Int.reduceToNat, reduceCtorEq, hh, List.all_append, ofBytes_len, h1, Nat.le_refl]
    exact ⟨_, _, rfl, by omega⟩

-- find26
theorem run_alive (d : Nat) : retP (runD tab noExt (d + 5)) 26 [] = some [.bool true] := by
  rw [retP, runD_eq find26 _ _ _ (by simp)]
  simp -implicitDefEqProofs (disch := omega) only [go_sem, Nat.reduceBEq, Nat.reduceAdd, Nat.reduceSub, Nat.reduceMul, Nat.reduceLeDiff, Nat.reduceEqDiff, Nat.reduceLT, Int.reduceNeg, Int.reduceAdd, Int.reduceSub, Int.reduceMul, Int.reduceLE, Int.reduceLT, Int.reduceEq, Int.reduceToNat, reduceCtorEq, run_ValueOk]
  have h1 : Val.ok ⟨1, 3, ⟨#[]⟩⟩ = true := rfl
  have h2 : Val.ok ⟨9, 0, ⟨#[]⟩⟩ = false := rfl
  simp -implicitDefEqProofs only [go_sem, Nat.reduceBEq, Nat.reduceAdd, Nat.reduceSub, Nat.reduceMul, Nat.reduceLeDiff, Nat.reduceEqDiff, Nat.reduceLT, Int.reduceNeg, Int.reduceAdd, Int.reduceSub, Int.reduceMul, Int.reduceLE, Int.reduceLT, Int.reduceEq, Int.reduceToNat, reduceCtorEq, h1, h2, run_ValueOk]

end Go.Proofs.Yteaojpfofifmnaa.PE
/- Logs that are drawn; the draws of entries and logs. -/
set_option linter.unusedSimpArgs false
set_option linter.unusedVariables false
set_option maxHeartbeats 4000000
namespace Go.Proofs.Yteaojpfofifmnaa.PE
open Go.RowKit

-- find90
theorem ex_log {d : Nat} {hp t : Heap} {c : Bool} {bs : List UInt8} {p n : Int} {X : Option (V × Heap)} (hx : callS (runD tab noExt (d + 7)) (hp ++ .box [.sl c 1 (cellsOfBytes bs), .int .i64 (p)] :: t) 90 [.ptr hp.length 0 0 0, .int .i64 n] false = X)
    (hp0 : 0 ≤ p) (hq : p ≤ 1099460000000) (hb : bs.length ≤ 2000) (hhp : plainH hp = true) (ht : plainH t = true) :
    ∃ (l : List Ent) (p' : Int), X = some (.sl false 2 (l.map Ent.cells), hp ++ .box [.sl c 1 (cellsOfBytes bs), .int .i64 (p')] :: t) ∧ p ≤ p' ∧ p' ≤ p + 4000 ∧ l.length ≤ 20 ∧ ∀ e ∈ l, WrsPost 6 e.ws := by
  subst hx
  have hh : ∀ n, t.all (hiB n) = true := fun n => plainH_hi ht n
  have hhq : ∀ n, hp.all (hiB n) = true := fun n => plainH_hi hhp n
  rw [callS_eq, runD_eq find90 _ _ _ (by simp)]
  simp -implicitDefEqProofs (disch := omega) only [go_sem, Nat.reduceBEq, Nat.reduceAdd, Nat.reduceSub, Nat.reduceMul, Nat.reduceLeDiff, Nat.reduceEqDiff, Nat.reduceLT, Int.reduceNeg, Int.reduceAdd, Int.reduceSub, Int.reduceMul, Int.reduceLE, Int.reduceLT, Int.reduceEq, Int.reduceToNat, reduceCtorEq, hh, hhq, List.all_append]
  generalize hx : callS (runD tab noExt _) _ 116 _ _ = X
  obtain ⟨m0, rfl, hm1, hm2⟩ := ex_pick hx (by omega) (by omega) hb hhp (by simp only [ht, plainH_nil, plainH_cons, plainH_append, plainB, List.all_cons, List.all_nil, Bool.and_self, Bool.and_true])
  clear hx
  simp -implicitDefEqProofs (disch := omega) only [go_sem, Nat.reduceBEq, Nat.reduceAdd, Nat.reduceSub, Nat.reduceMul, Nat.reduceLeDiff, Nat.reduceEqDiff, Nat.reduceLT, Int.reduceNeg, Int.reduceAdd, Int.reduceSub, Int.reduceMul, Int.reduceLE, Int.reduceLT, Int.reduceEq, Int.reduceToNat, reduceCtorEq, hh, hhq, List.all_append]
  generalize hx : LoopS _ _ _ _ _ _ _ _ _ = Y
  obtain ⟨cont, st, p1, rfl, h1, h2, h3, h4⟩ := loop_log hb hhp ht m0.toNat _ hx (by omega) (by omega) rfl (by simp; omega) AllP.nil (by omega) (by omega) (by omega) (by omega)
  clear hx
  simp only [List.length_nil, Nat.zero_add] at h2
  have h2a : cont.length ≤ 7 := by omega
  have h4' : p1 ≤ p + 2000 := by omega
  have h5 : cont.length + cont.length < 4294967296 := by omega
  clear h2 h4
  simp -implicitDefEqProofs (disch := omega) only [go_sem, Nat.reduceBEq, Nat.reduceAdd, Nat.reduceSub, Nat.reduceMul, Nat.reduceLeDiff, Nat.reduceEqDiff, Nat.reduceLT, Int.reduceNeg, Int.reduceAdd, Int.reduceSub, Int.reduceMul, Int.reduceLE, Int.reduceLT, Int.reduceEq, Int.reduceToNat, reduceCtorEq, hh, hhq, List.all_append]
  have fin : ∀ (l : List (List V)) (p' : Int), AllP IsEnt1 l → l.length ≤ 20 → p ≤ p' → p' ≤ p + 4000 → ∃ (es : List Ent) (p'' : Int), (some (.sl false 2 l, hp ++ .box [.sl c 1 (cellsOfBytes bs), .int .i64 (p')] :: t) : Option (V × Heap)) = some (.sl false 2 (es.map Ent.cells), hp ++ .box [.sl c 1 (cellsOfBytes bs), .int .i64 (p'')] :: t) ∧ p ≤ p'' ∧ p'' ≤ p + 4000 ∧ es.length ≤ 20 ∧ ∀ e ∈ es, WrsPost 6 e.ws := by
    intro l p' h1 h2 h3 h4
    obtain ⟨es, rfl, hv⟩ := ents_of h1
    simp only [List.length_map] at h2
    exact ⟨es, p', rfl, h3, h4, h2, hv⟩
  have htk : ∀ (i : Nat) x, (cont.set i x).take cont.length = cont.set i x := fun i x => List.take_of_length_le (by simp)
  repeat' (first | ((conv in (callS _ _ 118 _ false) => skip); generalize hx : callS (runD tab noExt _) (_ ++ _ :: _) 118 _ false = X; obtain ⟨b, p', rfl, hm1, hm2, hm3⟩ := ex_odd hx (by omega) (by omega) hb hhp (by simp only [ht, plainH_nil, plainH_cons, plainH_append, plainB, List.all_cons, List.all_nil, Bool.and_self, Bool.and_true]) ; skip; clear hx; simp -implicitDefEqProofs (disch := omega) only [go_sem, Nat.reduceBEq, Nat.reduceAdd, Nat.reduceSub, Nat.reduceMul, Nat.reduceLeDiff, Nat.reduceEqDiff, Nat.reduceLT, Int.reduceNeg, Int.reduceAdd, Int.reduceSub, Int.reduceMul, Int.reduceLE, Int.reduceLT, Int.reduceEq, Int.reduceToNat, reduceCtorEq, IntWalk.i64_in, hh, hhq, List.all_append, List.take_length, List.length_set, List.contains_nil, elemsOf, elemOf, frzs, refs, refC, refsV, listOf, h5, *]) | ((conv in (callS _ _ 117 _ false) => skip); generalize hx : callS (runD tab noExt _) (_ ++ _ :: _) 117 _ false = X; obtain ⟨ws, p', rfl, hv1, hv2, hgw⟩ := ex_writes (d := d) hx (by omega) (by omega) hb hhp (by simp only [ht, plainH_nil, plainH_cons, plainH_append, plainB, List.all_cons, List.all_nil, Bool.and_self, Bool.and_true]) ; skip; clear hx; simp -implicitDefEqProofs (disch := omega) only [go_sem, Nat.reduceBEq, Nat.reduceAdd, Nat.reduceSub, Nat.reduceMul, Nat.reduceLeDiff, Nat.reduceEqDiff, Nat.reduceLT, Int.reduceNeg, Int.reduceAdd, Int.reduceSub, Int.reduceMul, Int.reduceLE, Int.reduceLT, Int.reduceEq, Int.reduceToNat, reduceCtorEq, IntWalk.i64_in, hh, hhq, List.all_append, List.take_length, List.length_set, List.contains_nil, elemsOf, elemOf, frzs, refs, refC, refsV, listOf, h5, *]) | ((conv in (callS _ _ 116 _ false) => skip); generalize hx : callS (runD tab noExt _) (_ ++ _ :: _) 116 [_, .int .i64 (cont.length : Int)] false = X; obtain ⟨m, rfl, hm1, hm2⟩ := ex_pick hx (by omega) (by omega) hb hhp (by simp only [ht, plainH_nil, plainH_cons, plainH_append, plainB, List.all_cons, List.all_nil, Bool.and_self, Bool.and_true]) ; skip; clear hx; have hlt : m.toNat < cont.length := (by omega); obtain ⟨y1, y2, y3, hgy, hy⟩ := ents_at h1 hlt; simp -implicitDefEqProofs (disch := omega) only [go_sem, Nat.reduceBEq, Nat.reduceAdd, Nat.reduceSub, Nat.reduceMul, Nat.reduceLeDiff, Nat.reduceEqDiff, Nat.reduceLT, Int.reduceNeg, Int.reduceAdd, Int.reduceSub, Int.reduceMul, Int.reduceLE, Int.reduceLT, Int.reduceEq, Int.reduceToNat, reduceCtorEq, IntWalk.i64_in, hh, hhq, List.all_append, List.take_length, List.length_set, List.contains_nil, elemsOf, elemOf, frzs, refs, refC, refsV, listOf, h5, *]) | ((conv in (callS _ _ 116 _ false) => skip); generalize hx : callS (runD tab noExt _) (_ ++ _ :: _) 116 _ false = X; obtain ⟨m, rfl, hm1, hm2⟩ := ex_pick hx (by omega) (by omega) hb hhp (by simp only [ht, plainH_nil, plainH_cons, plainH_append, plainB, List.all_cons, List.all_nil, Bool.and_self, Bool.and_true]) ; skip; clear hx; simp -implicitDefEqProofs (disch := omega) only [go_sem, Nat.reduceBEq, Nat.reduceAdd, Nat.reduceSub, Nat.reduceMul, Nat.reduceLeDiff, Nat.reduceEqDiff, Nat.reduceLT, Int.reduceNeg, Int.reduceAdd, Int.reduceSub, Int.reduceMul, Int.reduceLE, Int.reduceLT, Int.reduceEq, Int.reduceToNat, reduceCtorEq, IntWalk.i64_in, hh, hhq, List.all_append, List.take_length, List.length_set, List.contains_nil, elemsOf, elemOf, frzs, refs, refC, refsV, listOf, h5, *]) | ((first | rw [GuardI_ndec] | rw [CondC_ndec] | rw [GuardQ_ndec] | rw [GuardV_ndec] | rw [GuardI_dec] | rw [CondC_dec] | rw [GuardQ_dec] | rw [GuardV_dec] | rw [GuardI_nby] | rw [CondC_nby] | rw [GuardQ_nby] | rw [GuardV_nby] | rw [GuardQ_by] | rw [GuardI_by] | rw [GuardV_by] | rw [CondC_by]) <;> split <;> simp -implicitDefEqProofs (disch := omega) only [go_sem, Nat.reduceBEq, Nat.reduceAdd, Nat.reduceSub, Nat.reduceMul, Nat.reduceLeDiff, Nat.reduceEqDiff, Nat.reduceLT, Int.reduceNeg, Int.reduceAdd, Int.reduceSub, Int.reduceMul, Int.reduceLE, Int.reduceLT, Int.reduceEq, Int.reduceToNat, reduceCtorEq, IntWalk.i64_in, hh, hhq, List.all_append, List.take_length, List.length_set, List.contains_nil, elemsOf, elemOf, frzs, refs, refC, refsV, listOf, h5, *]))
  all_goals first
    | (exact fin _ _ (h1.set ⟨⟨_, y2, y3⟩, hgy, rfl⟩ _) (by simp; omega) (by omega) (by omega))
    | (refine fin _ _ (h1.set ⟨⟨y1, false, ws⟩, hgw, rfl⟩ _) ?_ ?_ ?_; (simp; omega); omega; omega; done)
    | exact fin _ _ (h1.append h1) (by simp; omega) (by omega) (by omega)
    | exact fin _ _ h1 (by omega) (by omega) (by omega)
theorem wrs_lim1 {ws : List Wr} (h : WrsPost 6 ws) (t : Int) (c : Bool) : LimE [⟨t, c, ws⟩] := by
  refine ⟨by simp, fun e he => ?_⟩
  rw [List.mem_singleton.1 he]
  refine ⟨by have := h.1; show ws.length ≤ 1048576; omega, fun w hw => ?_⟩
  obtain ⟨h1, h2⟩ := h.2 w hw
  exact ⟨by omega, fun v hv => by have := h2 v hv; omega⟩
-- find24
theorem run_drawLog (d : Nat) (c : Bool) (bs : List UInt8) : ∃ l : List Ent, retP (runD tab noExt (d + 10)) 52 [.sl c 1 (cellsOfBytes bs)] = some [.sl false 2 (l.map Ent.cells)] ∧ LimE l := by
  rw [retP, runD_eq find52 _ _ _ (by simp)]
  simp -implicitDefEqProofs only [go_sem, Nat.reduceBEq, Nat.reduceAdd, Nat.reduceSub, Nat.reduceMul, Nat.reduceLeDiff, Nat.reduceEqDiff, Nat.reduceLT, Int.reduceNeg, Int.reduceAdd, Int.reduceSub, Int.reduceMul, Int.reduceLE, Int.reduceLT, Int.reduceEq, Int.reduceToNat, reduceCtorEq]
  generalize hx : callS (runD tab noExt _) _ 71 _ true = X
  obtain ⟨c', bs', rfl, hb⟩ := ex_open hx rfl
  clear hx
  simp -implicitDefEqProofs only [go_sem, Nat.reduceBEq, Nat.reduceAdd, Nat.reduceSub, Nat.reduceMul, Nat.reduceLeDiff, Nat.reduceEqDiff, Nat.reduceLT, Int.reduceNeg, Int.reduceAdd, Int.reduceSub, Int.reduceMul, Int.reduceLE, Int.reduceLT, Int.reduceEq, Int.reduceToNat, reduceCtorEq]
  generalize hx : callS (runD tab noExt _) _ 90 _ false = X
  obtain ⟨l, p', rfl, g1, g2, g3, g4⟩ := ex_log (hp := []) (t := []) hx (by omega) (by omega) hb rfl rfl
  clear hx
  simp -implicitDefEqProofs (disch := omega) only [go_sem, Nat.reduceBEq, Nat.reduceAdd, Nat.reduceSub, Nat.reduceMul, Nat.reduceLeDiff, Nat.reduceEqDiff, Nat.reduceLT, Int.reduceNeg, Int.reduceAdd, Int.reduceSub, Int.reduceMul, Int.reduceLE, Int.reduceLT, Int.reduceEq, Int.reduceToNat, reduceCtorEq]
  exact ⟨l, rfl, by omega, fun e he => (wrs_lim1 (g4 e he) e.time e.wc).2 e (List.mem_singleton.2 rfl)⟩
end Go.Proofs.Yteaojpfofifmnaa.PE
/- Logs that are the same. -/
set_option linter.unusedSimpArgs false
set_option linter.unusedVariables false
set_option maxHeartbeats 4000000
set_option maxRecDepth 20000
namespace Go.Proofs.Yteaojpfofifmnaa.PE
open Go.RowKit

theorem wrU_parts {a b : Wr} (h : wrU a = wrU b) : b.key = a.key ∧ b.row.vs = a.row.vs ∧ b.gone = a.gone := by
  simp only [wrU, List.cons.injEq, U.int.injEq, U.sub.injEq, U.bool.injEq, and_true] at h
  obtain ⟨h1, h2, h3⟩ := h
  exact ⟨h1.symm, (by simpa using (map_same (g := id) (fun _ _ => valU_inj) h2).symm), h3.symm⟩
theorem entU_parts {a b : Ent} (h : entU a = entU b) : b.time = a.time ∧ a.ws.map wrU = b.ws.map wrU := by
  simp only [entU, List.cons.injEq, U.int.injEq, U.sub.injEq, and_true] at h
  exact ⟨h.1.symm, h.2⟩
theorem zip_at {α β : Type} {f : α → β} {a b : List α} (h : a.map f = b.map f) {i : Nat} {x : α × α} (h1 : a[i]? = some x.1) (h2 : b[i]? = some x.2) : f x.1 = f x.2 := by
  have h3 : (a.map f)[i]? = some (f x.1) := by simp [h1]
  have h4 : (b.map f)[i]? = some (f x.2) := by simp [h2]
  rw [h, h4] at h3
  exact (Option.some.inj h3).symm
theorem all_yes {α : Type} (l : List α) : l.all (fun _ => true) = true := by simp
theorem loop_sameWs (d : Nat) (c c' : Bool) (a b : List Wr) (hs : a.length < 1099511627776) (hsa : ∀ w ∈ a, w.row.vs.length < 1099511627776) (he : a.map wrU = b.map wrU) (hlen : a.length = b.length) (K : Nat) (hK : (a.zip b).length ≤ K) : LoopS (runD tab noExt (d + 1)) (drawI (runD tab noExt (d + 1))) [0, 1, 5] [4] L78x0 ([] : Heap).length K [(0, .sl c 3 (a.map Wr.cells)), (1, .sl c' 3 (b.map Wr.cells)), (5, .int .i64 0)] [] = if (a.zip b).all (fun _ => true) then (some (.exit 0, [(4, .undef)], []) : Out) else (some (.ret, [(4, .bool false)], []) : Out) := by
  have key := LoopS_all (run := (runD tab noExt (d + 1))) (draw := drawI (runD tab noExt (d + 1))) (live := [0, 1, 5]) (out := [4]) (c := L78x0) (n0 := ([] : Heap).length) (a.zip b) (fun _ => true) (fun (i : Nat) => [(0, .sl c 3 (a.map Wr.cells)), (1, .sl c' 3 (b.map Wr.cells)), (5, .int .i64 i)]) [] (some (.exit 0, [(4, .undef)], []) : Out) (some (.ret, [(4, .bool false)], []) : Out) (fun K => ?_) (fun (i : Nat) (x : Wr × Wr) K hi hx => ?_) K hK
  · simp only [Int.natCast_zero] at key
    exact key
  · rw [LoopS_eq]
    simp -implicitDefEqProofs only [go_sem, Nat.reduceBEq, Nat.reduceAdd, Nat.reduceSub, Nat.reduceMul, Nat.reduceLeDiff, Nat.reduceEqDiff, Nat.reduceLT, Int.reduceNeg, Int.reduceAdd, Int.reduceSub, Int.reduceMul, Int.reduceLE, Int.reduceLT, Int.reduceEq, Int.reduceToNat, reduceCtorEq, evL78x0, B78x0, Int.lt_irrefl, List.length_zip, hlen, Nat.min_self, evC_draw, evD78x0, E78x0, Wr.cells, Row.v]
  · obtain ⟨g1, g2⟩ := List.getElem?_zip_eq_some.1 hx; rw [List.length_zip, hlen, Nat.min_self] at hi; obtain ⟨e1, e2, e3⟩ := wrU_parts (zip_at he g1 g2); have hss := run_sameRow d x.1.row.clip x.2.row.clip x.1.row.vs x.2.row.vs (hsa _ (List.mem_of_getElem? g1)); rw [e2] at hss; clear he
    rw [LoopS_eq]
    simp -implicitDefEqProofs (disch := omega) only [go_sem, Nat.reduceBEq, Nat.reduceAdd, Nat.reduceSub, Nat.reduceMul, Nat.reduceLeDiff, Nat.reduceEqDiff, Nat.reduceLT, Int.reduceNeg, Int.reduceAdd, Int.reduceSub, Int.reduceMul, Int.reduceLE, Int.reduceLT, Int.reduceEq, Int.reduceToNat, reduceCtorEq, evL78x0, B78x0, hi, hx, IntWalk.i64_in, List.length_zip, hlen, Nat.min_self, evC_draw, evD78x0, E78x0, Wr.cells, Row.v, *]
    repeat' ((first | rw [GuardI_ndec] | rw [CondC_ndec] | rw [GuardQ_ndec] | rw [GuardI_dec] | rw [CondC_dec] | rw [GuardQ_dec] | rw [GuardI_nby] | rw [CondC_nby] | rw [GuardQ_nby] | rw [GuardQ_by] | rw [GuardI_by] | rw [CondC_by]) <;> split <;> simp -implicitDefEqProofs (disch := omega) only [go_sem, Nat.reduceBEq, Nat.reduceAdd, Nat.reduceSub, Nat.reduceMul, Nat.reduceLeDiff, Nat.reduceEqDiff, Nat.reduceLT, Int.reduceNeg, Int.reduceAdd, Int.reduceSub, Int.reduceMul, Int.reduceLE, Int.reduceLT, Int.reduceEq, Int.reduceToNat, reduceCtorEq, hi, hx, IntWalk.i64_in, List.length_zip, hlen, Nat.min_self, evC_draw, evD78x0, E78x0, Wr.cells, Row.v, *, *])
    all_goals first | rfl | (simp_all []; done) | (simp_all []; omega)
-- find78
theorem run_sameWs (d : Nat) (c c' : Bool) (a b : List Wr) (hs : a.length < 1099511627776) (hsa : ∀ w ∈ a, w.row.vs.length < 1099511627776) (he : a.map wrU = b.map wrU) : retP (runD tab noExt (d + 2)) 78 [.sl c 3 (a.map Wr.cells), .sl c' 3 (b.map Wr.cells)] = some [.bool true] := by
  have hlen : a.length = b.length := by simpa using congrArg List.length he
  have hl := loop_sameWs d c c' a b hs hsa he hlen 1099511627775 (by simp; omega)
  rw [if_pos (all_yes _)] at hl
  rw [retP, runD_eq find78 _ _ _ (by simp)]
  simp -implicitDefEqProofs only [go_sem, Nat.reduceBEq, Nat.reduceAdd, Nat.reduceSub, Nat.reduceMul, Nat.reduceLeDiff, Nat.reduceEqDiff, Nat.reduceLT, Int.reduceNeg, Int.reduceAdd, Int.reduceSub, Int.reduceMul, Int.reduceLE, Int.reduceLT, Int.reduceEq, Int.reduceToNat, reduceCtorEq, hlen] at hl ⊢
  rw [hl]
  simp -implicitDefEqProofs only [go_sem, Nat.reduceBEq, Nat.reduceAdd, Nat.reduceSub, Nat.reduceMul, Nat.reduceLeDiff, Nat.reduceEqDiff, Nat.reduceLT, Int.reduceNeg, Int.reduceAdd, Int.reduceSub, Int.reduceMul, Int.reduceLE, Int.reduceLT, Int.reduceEq, Int.reduceToNat, reduceCtorEq]
theorem loop_sameLog (d : Nat) (c c' : Bool) (a b : List Ent) (hs : a.length < 1099511627776) (hsa : LimE a) (he : a.map entU = b.map entU) (hlen : a.length = b.length) (K : Nat) (hK : (a.zip b).length ≤ K) : LoopS (runD tab noExt (d + 2)) (drawI (runD tab noExt (d + 2))) [0, 1, 5] [4] L28x0 ([] : Heap).length K [(0, .sl c 2 (a.map Ent.cells)), (1, .sl c' 2 (b.map Ent.cells)), (5, .int .i64 0)] [] = if (a.zip b).all (fun _ => true) then (some (.exit 0, [(4, .undef)], []) : Out) else (some (.ret, [(4, .bool false)], []) : Out) := by
  have key := LoopS_all (run := (runD tab noExt (d + 2))) (draw := drawI (runD tab noExt (d + 2))) (live := [0, 1, 5]) (out := [4]) (c := L28x0) (n0 := ([] : Heap).length) (a.zip b) (fun _ => true) (fun (i : Nat) => [(0, .sl c 2 (a.map Ent.cells)), (1, .sl c' 2 (b.map Ent.cells)), (5, .int .i64 i)]) [] (some (.exit 0, [(4, .undef)], []) : Out) (some (.ret, [(4, .bool false)], []) : Out) (fun K => ?_) (fun (i : Nat) (x : Ent × Ent) K hi hx => ?_) K hK
  · simp only [Int.natCast_zero] at key
    exact key
  · rw [LoopS_eq]
    simp -implicitDefEqProofs only [go_sem, Nat.reduceBEq, Nat.reduceAdd, Nat.reduceSub, Nat.reduceMul, Nat.reduceLeDiff, Nat.reduceEqDiff, Nat.reduceLT, Int.reduceNeg, Int.reduceAdd, Int.reduceSub, Int.reduceMul, Int.reduceLE, Int.reduceLT, Int.reduceEq, Int.reduceToNat, reduceCtorEq, evL28x0, B28x0, Int.lt_irrefl, List.length_zip, hlen, Nat.min_self, evC_draw, evD28x0, E28x0, Ent.cells, Ent.v]
  · obtain ⟨g1, g2⟩ := List.getElem?_zip_eq_some.1 hx; rw [List.length_zip, hlen, Nat.min_self] at hi; obtain ⟨e1, e2⟩ := entU_parts (zip_at he g1 g2); have hl2 := hsa.2 _ (List.mem_of_getElem? g1); have hss := run_sameWs d x.1.wc x.2.wc x.1.ws x.2.ws (by omega) (fun w hw => by have := (hl2.2 w hw).1; omega) e2; clear he e2 hl2
    rw [LoopS_eq]
    simp -implicitDefEqProofs (disch := omega) only [go_sem, Nat.reduceBEq, Nat.reduceAdd, Nat.reduceSub, Nat.reduceMul, Nat.reduceLeDiff, Nat.reduceEqDiff, Nat.reduceLT, Int.reduceNeg, Int.reduceAdd, Int.reduceSub, Int.reduceMul, Int.reduceLE, Int.reduceLT, Int.reduceEq, Int.reduceToNat, reduceCtorEq, evL28x0, B28x0, hi, hx, IntWalk.i64_in, List.length_zip, hlen, Nat.min_self, evC_draw, evD28x0, E28x0, Ent.cells, Ent.v, *]
    repeat' ((first | rw [GuardI_ndec] | rw [CondC_ndec] | rw [GuardQ_ndec] | rw [GuardI_dec] | rw [CondC_dec] | rw [GuardQ_dec] | rw [GuardI_nby] | rw [CondC_nby] | rw [GuardQ_nby] | rw [GuardQ_by] | rw [GuardI_by] | rw [CondC_by]) <;> split <;> simp -implicitDefEqProofs (disch := omega) only [go_sem, Nat.reduceBEq, Nat.reduceAdd, Nat.reduceSub, Nat.reduceMul, Nat.reduceLeDiff, Nat.reduceEqDiff, Nat.reduceLT, Int.reduceNeg, Int.reduceAdd, Int.reduceSub, Int.reduceMul, Int.reduceLE, Int.reduceLT, Int.reduceEq, Int.reduceToNat, reduceCtorEq, hi, hx, IntWalk.i64_in, List.length_zip, hlen, Nat.min_self, evC_draw, evD28x0, E28x0, Ent.cells, Ent.v, *, *])
    all_goals first | rfl | (simp_all []; done) | (simp_all []; omega)
-- find28
theorem run_sameLog (d : Nat) (c c' : Bool) (a b : List Ent) (hsa : LimE a) (he : a.map entU = b.map entU) : retP (runD tab noExt (d + 3)) 28 [.sl c 2 (a.map Ent.cells), .sl c' 2 (b.map Ent.cells)] = some [.bool true] := by
  have hlen : a.length = b.length := by simpa using congrArg List.length he
  have hs := hsa.1
  have hl := loop_sameLog d c c' a b (by omega) hsa he hlen 1099511627775 (by simp; omega)
  rw [if_pos (all_yes _)] at hl
  rw [retP, runD_eq find28 _ _ _ (by simp)]
  simp -implicitDefEqProofs only [go_sem, Nat.reduceBEq, Nat.reduceAdd, Nat.reduceSub, Nat.reduceMul, Nat.reduceLeDiff, Nat.reduceEqDiff, Nat.reduceLT, Int.reduceNeg, Int.reduceAdd, Int.reduceSub, Int.reduceMul, Int.reduceLE, Int.reduceLT, Int.reduceEq, Int.reduceToNat, reduceCtorEq, hlen] at hl ⊢
  rw [hl]
  simp -implicitDefEqProofs only [go_sem, Nat.reduceBEq, Nat.reduceAdd, Nat.reduceSub, Nat.reduceMul, Nat.reduceLeDiff, Nat.reduceEqDiff, Nat.reduceLT, Int.reduceNeg, Int.reduceAdd, Int.reduceSub, Int.reduceMul, Int.reduceLE, Int.reduceLT, Int.reduceEq, Int.reduceToNat, reduceCtorEq]
end Go.Proofs.Yteaojpfofifmnaa.PE
/- Bytes are read in one way. -/
set_option linter.unusedSimpArgs false
set_option linter.unusedVariables false
set_option maxHeartbeats 8000000
set_option maxRecDepth 20000
namespace Go.Proofs.Yteaojpfofifmnaa.PE
open Go.RowKit

theorem cob_same {l : List Int} {p : List UInt8} (h : l = toI p) : u8s l = cellsOfBytes p := by rw [h, cob_u8s]
theorem bytes_of {l : List Int} {q : V} (k : PurF (.sub fdByte) q (.sub (byU l))) : ∃ c, q = .sl c 1 (u8s l) := by
  obtain ⟨c, ct, rfl, hz⟩ := purS_Byte k
  obtain ⟨xs, rfl, h2⟩ := typ_of (f := fun n : Int => [V.int .u8 n]) (g := fun n : Int => [U.int n]) (fun c x hr => by
    obtain ⟨a, rfl, rfl⟩ := purR_Byte hr
    exact ⟨a, rfl, rfl⟩) hz
  have : l = xs := by
    have h3 : l.map (fun n : Int => [U.int n]) = xs.map (fun n : Int => [U.int n]) := h2
    refine (List.map_inj_right (fun x y hxy => ?_)).1 h3
    simpa using hxy
  exact ⟨c, by rw [this]; rfl⟩
theorem run_lFromI (d : Nat) (c : Bool) (b : List UInt8) (hb : b.length < 1099511627776) : ∃ (cl : Bool) (l : List Ent), retP (runD tab noExt (d + 12)) 29 [.sl c 1 (cellsOfBytes b)] = some [.sl cl 2 (l.map Ent.cells)] ∧ l.map entU = (lFrom 13 [] b).map entU := by
  obtain ⟨v, hc, ids, r, o, _⟩ := own_lFrom d c b hb
  obtain ⟨q, e, g⟩ := retP_own r o (by decide)
  obtain ⟨cl, l, rfl, h⟩ := ents_each g
  exact ⟨cl, l, e, h.symm⟩
theorem run_LogBytesI (d : Nat) (c : Bool) (l : List Ent) (h1 : LimE l) : ∃ cb, retP (runD tab noExt (d + 10)) 30 [.sl c 2 (l.map Ent.cells)] = some [.sl cb 1 (u8s (logBytes l))] := by
  obtain ⟨v, hc, ids, r, o, _⟩ := own_LogBytes d c l h1
  obtain ⟨q, e, g⟩ := retP_own r o (by decide)
  obtain ⟨cb, rfl⟩ := bytes_of g
  exact ⟨cb, e⟩
theorem run_EntryBytesI (d : Nat) (e : Ent) (h1 : LimE [e]) : ∃ cb, retP (runD tab noExt (d + 10)) 18 [.agg e.cells] = some [.sl cb 1 (u8s (entBytes e))] := by
  obtain ⟨v, hc, ids, r, o, _⟩ := own_EntryBytes d e h1
  obtain ⟨q, e, g⟩ := retP_own r o (by decide)
  obtain ⟨cb, rfl⟩ := bytes_of g
  exact ⟨cb, e⟩
end Go.Proofs.Yteaojpfofifmnaa.PE
/- The law of an entry's bytes. -/
set_option linter.unusedSimpArgs false
set_option linter.unusedVariables false
set_option maxHeartbeats 8000000
set_option maxRecDepth 20000
namespace Go.Proofs.Yteaojpfofifmnaa.PE
open Go.RowKit

theorem bytes_ex : ∀ (l : List Int), (∀ x ∈ l, 0 ≤ x ∧ x < 256) → ∃ B : List UInt8, toI B = l
  | [], _ => ⟨[], rfl⟩
  | x :: l, h => by
    obtain ⟨B, hB⟩ := bytes_ex l (fun y hy => h y (by simp [hy]))
    have hx := h x (by simp)
    refine ⟨UInt8.ofNat x.toNat :: B, ?_⟩
    have : ((UInt8.ofNat x.toNat).toNat : Int) = x := by simp; omega
    rw [toI_cons, hB, this]
theorem sumF_in (p : Int × Nat) (x : Int) (hp : 0 ≤ p.1 ∧ p.1 < 251) (hx : 0 ≤ x) : 0 ≤ (sumF p x).1 ∧ (sumF p x).1 < 251 := by
  have hm : 0 ≤ x * ((p.2 : Int) + 1) := Int.mul_nonneg hx (by omega)
  exact ⟨tmod_nn (show 0 ≤ p.1 + x * ((p.2 : Int) + 1) by omega) (show (0 : Int) < 251 by omega), tmod_lt (show 0 ≤ p.1 + x * ((p.2 : Int) + 1) by omega) (show (0 : Int) < 251 by omega)⟩
theorem sumB_in (l : List Int) (h : ∀ x ∈ l, 0 ≤ x ∧ x < 256) : 0 ≤ sumB l ∧ sumB l < 256 := by
  have key : ∀ (l : List Int) (p : Int × Nat), (∀ x ∈ l, 0 ≤ x ∧ x < 256) → 0 ≤ p.1 ∧ p.1 < 251 → 0 ≤ (l.foldl sumF p).1 ∧ (l.foldl sumF p).1 < 251 := by
    intro l
    induction l with
    | nil => intro p _ hp; exact hp
    | cons x l ih =>
      intro p h hp
      exact ih _ (fun y hy => h y (by simp [hy])) (sumF_in p x hp (h x (by simp)).1)
  have := key l (0, 0) h ⟨by decide, by decide⟩
  unfold sumB
  omega
theorem fr_ex {e : Ent} (h : logOk [e] = true) : ∃ B : List UInt8, toI B = frB (bodyB e) := by
  refine bytes_ex _ (fun x hx => ?_)
  have hb := body_len h
  have hi := in_body h
  simp only [frB, List.mem_cons, List.mem_append, List.not_mem_nil, or_false] at hx
  rcases hx with rfl | rfl | hx | rfl
  · omega
  · omega
  · exact hi x hx
  · exact sumB_in _ hi
end Go.Proofs.Yteaojpfofifmnaa.PE
/- The law of a log's bytes. -/
set_option linter.unusedSimpArgs false
set_option linter.unusedVariables false
set_option maxHeartbeats 8000000
set_option maxRecDepth 20000
namespace Go.Proofs.Yteaojpfofifmnaa.PE
open Go.RowKit

theorem frs_ex : ∀ (l : List Ent), (∀ e ∈ l, logOk [e] = true) → ∃ B : List UInt8, toI B = l.flatMap frE
  | [], _ => ⟨[], rfl⟩
  | e :: l, h => by
    obtain ⟨B1, h1⟩ := fr_ex (h e (by simp))
    obtain ⟨B2, h2⟩ := frs_ex l (fun x hx => h x (by simp [hx]))
    exact ⟨B1 ++ B2, by rw [toI_app, h1, h2, List.flatMap_cons]; rfl⟩
/-- What the program reads of a beginning of a log's bytes. -/
theorem torn_read (d : Nat) (c : Bool) {l : List Ent} (h : logOk l = true) (lim : LimE l) {B : List UInt8} (hB : toI B = logBytes l) (hb : B.length ≤ 2160) (n : Nat) : ∃ (cl : Bool) (l2 : List Ent), retP (runD tab noExt (d + 12)) 29 [.sl c 1 (cellsOfBytes (B.take n))] = some [.sl cl 2 (l2.map Ent.cells)] ∧ l2.map entU = (l.take (wh l n)).map entU ∧ l2.length = wh l n ∧ LimE l2 := by
  obtain ⟨cl, l2, e1, e2⟩ := run_lFromI d c (B.take n) (by rw [List.length_take]; omega)
  rw [lFrom_torn h hB n] at e2
  have hw := wh_le l n
  have hl : l2.length = wh l n := by
    have := congrArg List.length e2
    simp only [List.length_map, List.length_take] at this
    omega
  refine ⟨cl, l2, e1, e2, hl, ents_lim (by rw [e2]; exact ents_len (lim.sub (by have := lim.1; rw [List.length_take]; omega) (fun e he => List.mem_of_mem_take he)))⟩
-- find11
theorem loop_tornA (c : Bool) {l : List Ent} (h : logOk l = true) (lim : LimE l) {B : List UInt8} (hB : toI B = logBytes l) (hb : B.length ≤ 2160) (c1 : Bool) (K : Nat) (hK : B.length ≤ K) : LoopS (runD tab noExt 60) (drawI (runD tab noExt 60)) [3, 4, 5] [2, 3, 4] L11x0 0 K [(3, .sl c 2 (l.map Ent.cells)), (4, .sl c1 1 (cellsOfBytes B)), (5, .int .i64 0)] [] = some (.exit 0, [(2, .undef), (3, .sl c 2 (l.map Ent.cells)), (4, .sl c1 1 (cellsOfBytes B))], []) := by
  have hl12 := log_len h
  obtain ⟨_, _, e⟩ := LoopS_inv (run := runD tab noExt 60) (draw := drawI (runD tab noExt 60)) (live := [3, 4, 5]) (out := [2, 3, 4]) (c := L11x0) (n0 := 0) B.length
      (fun i (_ : Unit) => True)
      (fun i _ => [(3, .sl c 2 (l.map Ent.cells)), (4, .sl c1 1 (cellsOfBytes B)), (5, .int .i64 (i : Nat))]) (fun _ => []) (fun _ => some (.exit 0, [(2, .undef), (3, .sl c 2 (l.map Ent.cells)), (4, .sl c1 1 (cellsOfBytes B))], []))
      (fun b K hb => by
        rw [LoopS_eq]
        simp -implicitDefEqProofs only [go_sem, Nat.reduceBEq, Nat.reduceAdd, Nat.reduceSub, Nat.reduceMul, Nat.reduceLeDiff, Nat.reduceEqDiff, Nat.reduceLT, Int.reduceNeg, Int.reduceAdd, Int.reduceSub, Int.reduceMul, Int.reduceLE, Int.reduceLT, Int.reduceEq, Int.reduceToNat, reduceCtorEq, evL11x0, B11x0, cob_len, Int.lt_irrefl]) (fun i b K hi _ => by
        refine ⟨(), trivial, ?_⟩
        obtain ⟨cl, l2, e1, e2, e3, e4⟩ := torn_read 48 false h lim hB hb i
        have hi' : (i : Int) < B.length := by omega
        have hi2 : (i : Int) ≤ B.length := by omega
        have hw := wh_le l i
        have hmin : min i B.length = i := by omega
        have htk : List.take i (cellsOfBytes (B.take i)) = cellsOfBytes (B.take i) := List.take_of_length_le (by rw [cob_len, List.length_take]; omega)
        have hmt : List.take (wh l i) (l.map Ent.cells) = (l.take (wh l i)).map Ent.cells := (List.map_take).symm
        have hmin2 : min (wh l i) l.length = wh l i := by omega
        have htk2 : List.take (wh l i) ((l.take (wh l i)).map Ent.cells) = (l.take (wh l i)).map Ent.cells := List.take_of_length_le (by rw [List.length_map, List.length_take]; omega)
        have q := run_sameLog 57 cl false l2 (l.take (wh l i)) e4 e2
        have g1 : ((l.length : Int) < wh l i) = False := eq_false (by omega)
        have g2 : ((wh l i : Int) ≤ l.length) := by omega
        have sm1 : i < 4294967296 := by omega
        have sm2 : wh l i < 4294967296 := by omega
        rw [LoopS_eq]
        simp -implicitDefEqProofs (disch := omega) only [go_sem, Nat.reduceBEq, Nat.reduceAdd, Nat.reduceSub, Nat.reduceMul, Nat.reduceLeDiff, Nat.reduceEqDiff, Nat.reduceLT, Int.reduceNeg, Int.reduceAdd, Int.reduceSub, Int.reduceMul, Int.reduceLE, Int.reduceLT, Int.reduceEq, Int.reduceToNat, reduceCtorEq, evL11x0, B11x0, cob_len, cob_take, hi', hi2, hmin, htk, e1, e3, hmt, hmin2, htk2, q, g1, g2, sm1, sm2, List.length_take, IntWalk.i64_in, elemsOf, elemOf, listOf, frzs, frz1, refs, refC, refsV, refsAs, refsA, List.set_cons_zero, List.flatMap_cons, List.flatMap_nil]) K hK () trivial
  simp only [Int.natCast_zero] at e
  exact e
def atK (l : List Ent) (k : Nat) : Nat := ((l.take k).flatMap frE).length
theorem atK_succ {l : List Ent} {k : Nat} {e : Ent} (h : l[k]? = some e) : atK l (k + 1) = atK l k + (frE e).length := by
  unfold atK
  rw [take_snoc h, List.flatMap_append, List.length_append]
  simp
theorem atK_le {l : List Ent} (h : logOk l = true) {B : List UInt8} (hB : toI B = logBytes l) (k : Nat) : atK l k ≤ B.length := by
  rw [logBytes_flat h] at hB
  have h1 : l.flatMap frE = (l.take k).flatMap frE ++ (l.drop k).flatMap frE := by rw [← List.flatMap_append, List.take_append_drop]
  have h2 := congrArg List.length hB
  rw [h1, toI_len, List.length_append] at h2
  unfold atK
  omega
theorem loop_tornB (c : Bool) {l : List Ent} (h : logOk l = true) (lim : LimE l) {B : List UInt8} (hB : toI B = logBytes l) (hb : B.length ≤ 2160) (c1 : Bool) (K : Nat) (hK : l.length ≤ K) : LoopS (runD tab noExt 60) (drawI (runD tab noExt 60)) [3, 4, 7, 8] [2, 3, 4] L11x1 0 K [(3, .sl c 2 (l.map Ent.cells)), (4, .sl c1 1 (cellsOfBytes B)), (7, .int .i64 0), (8, .int .i64 0)] [] = some (.exit 2, [(2, .undef), (3, .sl c 2 (l.map Ent.cells)), (4, .sl c1 1 (cellsOfBytes B))], []) := by
  have hl12 := log_len h
  obtain ⟨_, _, e⟩ := LoopS_inv (run := runD tab noExt 60) (draw := drawI (runD tab noExt 60)) (live := [3, 4, 7, 8]) (out := [2, 3, 4]) (c := L11x1) (n0 := 0) l.length
      (fun i (_ : Unit) => True)
      (fun i _ => [(3, .sl c 2 (l.map Ent.cells)), (4, .sl c1 1 (cellsOfBytes B)), (7, .int .i64 (atK l i : Nat)), (8, .int .i64 (i : Nat))]) (fun _ => []) (fun _ => some (.exit 2, [(2, .undef), (3, .sl c 2 (l.map Ent.cells)), (4, .sl c1 1 (cellsOfBytes B))], []))
      (fun b K hb => by
        rw [LoopS_eq]
        simp -implicitDefEqProofs only [go_sem, Nat.reduceBEq, Nat.reduceAdd, Nat.reduceSub, Nat.reduceMul, Nat.reduceLeDiff, Nat.reduceEqDiff, Nat.reduceLT, Int.reduceNeg, Int.reduceAdd, Int.reduceSub, Int.reduceMul, Int.reduceLE, Int.reduceLT, Int.reduceEq, Int.reduceToNat, reduceCtorEq, evL11x1, B11x1, Int.lt_irrefl]) (fun i b K hi _ => by
        refine ⟨(), trivial, ?_⟩
        have hx := List.getElem?_eq_getElem hi
        generalize l[i] = x at hx
        have hxo := log_one h x (List.mem_of_getElem? hx)
        have hxl := fr_len hxo
        have ha := atK_succ hx
        have ha2 := atK_le h hB (i + 1)
        have limx : LimE [x] := lim.sub (by simp) (fun e he => by rw [List.mem_singleton.1 he]; exact List.mem_of_getElem? hx)
        obtain ⟨ce, eO⟩ := run_EntryBytesI 50 x limx
        rw [entBytes, if_pos hxo] at eO
        simp only [Ent.cells, Ent.v] at eO
        obtain ⟨cl, l2, e1, e2, e3, e4⟩ := torn_read 48 false h lim hB hb (atK l (i + 1))
        have hws : wh l (atK l (i + 1)) = i + 1 := wh_sum l (i + 1) (by omega) (fun e he => (fr_len (log_one h e he)).1)
        rw [hws] at e3
        have hadd : (atK l i : Int) + (frB (bodyB x)).length = (atK l (i + 1) : Nat) := by rw [ha]; unfold frE; omega
        have hi' : (i : Int) < l.length := by omega
        have hi2 : (atK l (i + 1) : Int) ≤ B.length := by omega
        have hmin : min (atK l (i + 1)) B.length = atK l (i + 1) := by omega
        have htk : List.take (atK l (i + 1)) (cellsOfBytes (B.take (atK l (i + 1)))) = cellsOfBytes (B.take (atK l (i + 1))) := List.take_of_length_le (by rw [cob_len, List.length_take]; omega)
        have sm1 : atK l (i + 1) < 4294967296 := by omega
        clear e2 ha hws
        rw [LoopS_eq]
        simp -implicitDefEqProofs (disch := omega) only [go_sem, Nat.reduceBEq, Nat.reduceAdd, Nat.reduceSub, Nat.reduceMul, Nat.reduceLeDiff, Nat.reduceEqDiff, Nat.reduceLT, Int.reduceNeg, Int.reduceAdd, Int.reduceSub, Int.reduceMul, Int.reduceLE, Int.reduceLT, Int.reduceEq, Int.reduceToNat, reduceCtorEq, evL11x1, B11x1, hx, Ent.cells, Ent.v, eO, u8s_len, hadd, cob_len, cob_take, hi', hi2, hmin, htk, e1, e3, sm1, List.length_take, IntWalk.i64_in, elemsOf, elemOf, listOf, frzs, frz1, refs, refC, refsV, refsAs, refsA, List.set_cons_zero, List.flatMap_cons, List.flatMap_nil]) K hK () trivial
  simp only [atK, List.take_zero, List.flatMap_nil, List.length_nil, Int.natCast_zero] at e
  exact e
theorem law_LogBytes (b : List UInt8) (hl : b.length ≤ maxLen) : ∃ d h1, runD tab noExt d 11 [.sl false 1 (cellsOfBytes b)] [] = some ([.bool true], h1) := by
  refine ⟨61, ?_⟩
  rw [runD_eq find11 _ _ _ (by simp)]
  have ha := run_alive 55
  by_cases h0 : (1048576 : Int) < b.length
  · simp -implicitDefEqProofs (disch := omega) only [go_sem, Nat.reduceBEq, Nat.reduceAdd, Nat.reduceSub, Nat.reduceMul, Nat.reduceLeDiff, Nat.reduceEqDiff, Nat.reduceLT, Int.reduceNeg, Int.reduceAdd, Int.reduceSub, Int.reduceMul, Int.reduceLE, Int.reduceLT, Int.reduceEq, Int.reduceToNat, reduceCtorEq, cob_len, h0]
    exact ⟨_, rfl⟩
  obtain ⟨l, eD, lim⟩ := run_drawLog 50 false b
  obtain ⟨cb, eI⟩ := run_LogBytesI 50 false l lim
  have eS := run_LogBytesS 53 false l lim
  obtain ⟨_, l2, l3⟩ := lim.fine
  have eL := run_logI 51 false l l3 l2
  cases ho : logOk l
  · rw [ho] at eL
    have hz : logBytes l = [] := by rw [logBytes, ho]; rfl
    rw [hz, u8s_nil] at eI eS
    simp -implicitDefEqProofs (disch := omega) only [go_sem, Nat.reduceBEq, Nat.reduceAdd, Nat.reduceSub, Nat.reduceMul, Nat.reduceLeDiff, Nat.reduceEqDiff, Nat.reduceLT, Int.reduceNeg, Int.reduceAdd, Int.reduceSub, Int.reduceMul, Int.reduceLE, Int.reduceLT, Int.reduceEq, Int.reduceToNat, reduceCtorEq, evC_draw, evD11x0, E11x0, cob_len, h0, ha, eD, eI, eS, eL, bytesOf]
    exact ⟨_, rfl⟩
  · obtain ⟨B, hB⟩ := frs_ex l (log_one ho)
    rw [← logBytes_flat ho] at hB
    have hBl : B.length ≤ 2160 := by rw [← toI_len, hB]; exact logBytes_len l
    rw [cob_same hB.symm] at eI eS
    rw [ho] at eL
    have hA := loop_tornA false ho lim hB hBl cb 1099511627775 (by omega)
    have hC := loop_tornB false ho lim hB hBl cb 1099511627775 (by have := log_len ho; omega)
    obtain ⟨cl, l4, e1, e2, e3, e4⟩ := torn_read 48 cb ho lim hB hBl B.length
    rw [wh_all ho hB, List.take_length] at e2
    rw [List.take_length] at e1
    have q := run_sameLog 57 cl false l4 l e4 e2
    clear e2
    simp -implicitDefEqProofs (disch := omega) only [go_sem, Nat.reduceBEq, Nat.reduceAdd, Nat.reduceSub, Nat.reduceMul, Nat.reduceLeDiff, Nat.reduceEqDiff, Nat.reduceLT, Int.reduceNeg, Int.reduceAdd, Int.reduceSub, Int.reduceMul, Int.reduceLE, Int.reduceLT, Int.reduceEq, Int.reduceToNat, reduceCtorEq, evC_draw, evD11x0, E11x0, cob_len, h0, ha, eD, eI, eS, eL, bytesOf_cob]
    try simp -implicitDefEqProofs only [go_sem, Nat.reduceBEq, Nat.reduceAdd, Nat.reduceSub, Nat.reduceMul, Nat.reduceLeDiff, Nat.reduceEqDiff, Nat.reduceLT, Int.reduceNeg, Int.reduceAdd, Int.reduceSub, Int.reduceMul, Int.reduceLE, Int.reduceLT, Int.reduceEq, Int.reduceToNat, reduceCtorEq] at hA hC
    rw [hA]
    simp -implicitDefEqProofs (disch := omega) only [go_sem, Nat.reduceBEq, Nat.reduceAdd, Nat.reduceSub, Nat.reduceMul, Nat.reduceLeDiff, Nat.reduceEqDiff, Nat.reduceLT, Int.reduceNeg, Int.reduceAdd, Int.reduceSub, Int.reduceMul, Int.reduceLE, Int.reduceLT, Int.reduceEq, Int.reduceToNat, reduceCtorEq]
    rw [hC]
    simp -implicitDefEqProofs (disch := omega) only [go_sem, Nat.reduceBEq, Nat.reduceAdd, Nat.reduceSub, Nat.reduceMul, Nat.reduceLeDiff, Nat.reduceEqDiff, Nat.reduceLT, Int.reduceNeg, Int.reduceAdd, Int.reduceSub, Int.reduceMul, Int.reduceLE, Int.reduceLT, Int.reduceEq, Int.reduceToNat, reduceCtorEq, e1, q, ha]
    exact ⟨_, rfl⟩
end Go.Proofs.Yteaojpfofifmnaa.PE
