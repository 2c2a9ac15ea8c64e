/- Texts of this claim, one behind the other: Pq0, Png, Pnc, Pvz, Pvr, Pu7, Pt1, Pt2, Pu8, Pru, Pv4, Pv7, Pv8, Pd5, Pd6, Pr0. -/
import Derived.Test.YtfbjbkkcilhgjaaG0
import Derived.Test.YtfbjbkkcilhgjaaPeX
/- Copies of rows, and whether lists of rows are the same. -/
set_option linter.unusedSimpArgs false
set_option linter.unusedVariables false
set_option maxHeartbeats 4000000
namespace Go.Proofs.Ytfbjbkkcilhgjaa.PE
open Go.RowKit

theorem clipkVal (d : Nat) (l : List (List V)) (n : Nat) (hn : n = l.length) : callX (runD tab noExt (d + 1)) [.rows 0 3 l] 2 174 [.ref 0 0 0 n false] = some (.ref 0 0 0 n true, [.rows 0 3 l]) := by
  subst hn
  simp only [callX, callK]
  rw [runD_eq find174 _ _ _ (by simp)]
  simp -implicitDefEqProofs (disch := omega) only [go_sem, Nat.reduceBEq, Nat.reduceAdd, Nat.reduceSub, Nat.reduceMul, Nat.reduceLeDiff, Nat.reduceEqDiff, Nat.reduceLT, Int.reduceNeg, Int.reduceAdd, Int.reduceSub, Int.reduceMul, Int.reduceLE, Int.reduceLT, Int.reduceEq, Int.reduceToNat, reduceCtorEq, List.take_length, Bool.true_or, resOk]
theorem runcVal (d : Nat) (c : Bool) (l : List (List V)) (h0 : 0 < l.length) (hl : l.length < 4294967296) : runD tab noExt (d + 2) 126 [.sl c 3 l] [] = some ([.ref 0 0 0 l.length true], [.rows 0 3 l]) := by
  rw [runD_eq find126 _ _ _ (by simp)]
  match l, h0, hl with
  | [], h0, _ => exact absurd h0 (by decide)
  | x :: r, _, hl =>
    have h0 : ((r.length : Int) + 1 = 0) = False := eq_false (by omega)
    have h1 : r.length + 1 < 4294967296 := by simpa using hl
    have hc := clipkVal d (x :: r) (r.length + 1) (by simp)
    simp -implicitDefEqProofs (disch := omega) only [go_sem, Nat.reduceBEq, Nat.reduceAdd, Nat.reduceSub, Nat.reduceMul, Nat.reduceLeDiff, Nat.reduceEqDiff, Nat.reduceLT, Int.reduceNeg, Int.reduceAdd, Int.reduceSub, Int.reduceMul, Int.reduceLE, Int.reduceLT, Int.reduceEq, Int.reduceToNat, reduceCtorEq, List.length_cons, h0, h1, hc]
theorem runnVal (d : Nat) (c : Bool) : runD tab noExt (d + 2) 126 [.sl c 3 []] [] = some ([.sl true 3 []], []) := by
  rw [runD_eq find126 _ _ _ (by simp)]
  simp -implicitDefEqProofs (disch := omega) only [go_sem, Nat.reduceBEq, Nat.reduceAdd, Nat.reduceSub, Nat.reduceMul, Nat.reduceLeDiff, Nat.reduceEqDiff, Nat.reduceLT, Int.reduceNeg, Int.reduceAdd, Int.reduceSub, Int.reduceMul, Int.reduceLE, Int.reduceLT, Int.reduceEq, Int.reduceToNat, reduceCtorEq]
/-- A row of one's own. -/
def Row.own (b : Bool) (r : Row) : Row := ⟨b, r.vs⟩
def own (b : Bool) (rs : List Row) : List Row := rs.map (Row.own b)
def sameVs (a b : List Val) : Bool := decide (a = b)
theorem loop_sameRow (d : Nat) (c c' : Bool) (a b : List Val) (hs : a.length < 1099511627776) (hlen : a.length = b.length) (K : Nat) (hK : (a.zip b).length ≤ K) : LoopS (runD tab noExt d) (drawI (runD tab noExt d)) [0, 1, 5] [4] L65x0 ([] : Heap).length K [(0, .sl c 3 (a.map Val.cells)), (1, .sl c' 3 (b.map Val.cells)), (5, .int .i64 0)] [] = if (a.zip b).all (fun p => decide (p.1 = p.2)) then (some (.exit 0, [(4, .undef)], []) : Out) else (some (.ret, [(4, .bool false)], []) : Out) := by
  have key := LoopS_all (run := (runD tab noExt d)) (draw := drawI (runD tab noExt d)) (live := [0, 1, 5]) (out := [4]) (c := L65x0) (n0 := ([] : Heap).length) (a.zip b) (fun p => decide (p.1 = p.2)) (fun (i : Nat) => [(0, .sl c 3 (a.map Val.cells)), (1, .sl c' 3 (b.map Val.cells)), (5, .int .i64 i)]) [] (some (.exit 0, [(4, .undef)], []) : Out) (some (.ret, [(4, .bool false)], []) : Out) (fun K => ?_) (fun (i : Nat) (x : Val × Val) K hi hx => ?_) K hK
  · simp only [Int.natCast_zero] at key
    exact key
  · rw [LoopS_eq]
    simp -implicitDefEqProofs only [go_sem, Nat.reduceBEq, Nat.reduceAdd, Nat.reduceSub, Nat.reduceMul, Nat.reduceLeDiff, Nat.reduceEqDiff, Nat.reduceLT, Int.reduceNeg, Int.reduceAdd, Int.reduceSub, Int.reduceMul, Int.reduceLE, Int.reduceLT, Int.reduceEq, Int.reduceToNat, reduceCtorEq, evL65x0, B65x0, Int.lt_irrefl, List.length_zip, hlen, Nat.min_self, evC_draw, evD65x0, E65x0, Val.cells]
  · obtain ⟨g1, g2⟩ := List.getElem?_zip_eq_some.1 hx; rw [List.length_zip, hlen, Nat.min_self] at hi; obtain ⟨⟨k1, n1, s1⟩, ⟨k2, n2, s2⟩⟩ := x
    rw [LoopS_eq]
    simp -implicitDefEqProofs (disch := omega) only [go_sem, Nat.reduceBEq, Nat.reduceAdd, Nat.reduceSub, Nat.reduceMul, Nat.reduceLeDiff, Nat.reduceEqDiff, Nat.reduceLT, Int.reduceNeg, Int.reduceAdd, Int.reduceSub, Int.reduceMul, Int.reduceLE, Int.reduceLT, Int.reduceEq, Int.reduceToNat, reduceCtorEq, evL65x0, B65x0, hi, hx, IntWalk.i64_in, List.length_zip, hlen, Nat.min_self, evC_draw, evD65x0, E65x0, Val.cells, *]
    repeat' ((first | rw [GuardI_ndec] | rw [CondC_ndec] | rw [GuardQ_ndec] | rw [GuardI_dec] | rw [CondC_dec] | rw [GuardQ_dec] | rw [GuardI_nby] | rw [CondC_nby] | rw [GuardQ_nby] | rw [GuardQ_by] | rw [GuardI_by] | rw [CondC_by]) <;> split <;> simp -implicitDefEqProofs (disch := omega) only [go_sem, Nat.reduceBEq, Nat.reduceAdd, Nat.reduceSub, Nat.reduceMul, Nat.reduceLeDiff, Nat.reduceEqDiff, Nat.reduceLT, Int.reduceNeg, Int.reduceAdd, Int.reduceSub, Int.reduceMul, Int.reduceLE, Int.reduceLT, Int.reduceEq, Int.reduceToNat, reduceCtorEq, hi, hx, IntWalk.i64_in, List.length_zip, hlen, Nat.min_self, evC_draw, evD65x0, E65x0, Val.cells, *, *])
    all_goals first | rfl | (simp_all [Val.mk.injEq]; done) | (simp_all [Val.mk.injEq]; omega)
theorem zip_same {α : Type} [DecidableEq α] : ∀ (a b : List α), a.length = b.length → ((a.zip b).all fun p => decide (p.1 = p.2)) = decide (a = b)
  | [], [], _ => by simp
  | x :: a, y :: b, h => by
    have := zip_same a b (by simpa using h)
    simp only [List.zip_cons_cons, List.all_cons, this]
    by_cases h1 : x = y <;> by_cases h2 : a = b <;> simp [h1, h2]
  | [], _ :: _, h => by simp at h
  | _ :: _, [], h => by simp at h
-- find65
theorem run_sameRow (d : Nat) (c c' : Bool) (a b : List Val) (hs : a.length < 1099511627776) : retP (runD tab noExt (d + 1)) 65 [.sl c 3 (a.map Val.cells), .sl c' 3 (b.map Val.cells)] = some [.bool (decide (a = b))] := by
  rw [retP, runD_eq find65 _ _ _ (by simp)]
  by_cases hlen : a.length = b.length
  · have hl := loop_sameRow d c c' a b hs hlen 1099511627775 (by simp; omega)
    simp -implicitDefEqProofs only [go_sem, Nat.reduceBEq, Nat.reduceAdd, Nat.reduceSub, Nat.reduceMul, Nat.reduceLeDiff, Nat.reduceEqDiff, Nat.reduceLT, Int.reduceNeg, Int.reduceAdd, Int.reduceSub, Int.reduceMul, Int.reduceLE, Int.reduceLT, Int.reduceEq, Int.reduceToNat, reduceCtorEq, hlen] at hl ⊢
    rw [hl, zip_same a b hlen]
    by_cases h : a = b <;> simp -implicitDefEqProofs only [go_sem, Nat.reduceBEq, Nat.reduceAdd, Nat.reduceSub, Nat.reduceMul, Nat.reduceLeDiff, Nat.reduceEqDiff, Nat.reduceLT, Int.reduceNeg, Int.reduceAdd, Int.reduceSub, Int.reduceMul, Int.reduceLE, Int.reduceLT, Int.reduceEq, Int.reduceToNat, reduceCtorEq, h]
  · have h1 : ((a.length : Int) = b.length) = False := eq_false (by omega)
    have h2 : ¬ a = b := fun e => hlen (by rw [e])
    simp -implicitDefEqProofs only [go_sem, Nat.reduceBEq, Nat.reduceAdd, Nat.reduceSub, Nat.reduceMul, Nat.reduceLeDiff, Nat.reduceEqDiff, Nat.reduceLT, Int.reduceNeg, Int.reduceAdd, Int.reduceSub, Int.reduceMul, Int.reduceLE, Int.reduceLT, Int.reduceEq, Int.reduceToNat, reduceCtorEq, h1, h2]
def vss (rs : List Row) : List (List Val) := rs.map Row.vs
theorem loop_sameRows (d : Nat) (c c' : Bool) (a b : List Row) (hs : a.length < 1099511627776) (hsa : ∀ r ∈ a, r.vs.length < 1099511627776) (hlen : a.length = b.length) (K : Nat) (hK : (a.zip b).length ≤ K) : LoopS (runD tab noExt (d + 1)) (drawI (runD tab noExt (d + 1))) [0, 1, 5] [4] L15x0 ([] : Heap).length K [(0, .sl c 1 (a.map Row.cells)), (1, .sl c' 1 (b.map Row.cells)), (5, .int .i64 0)] [] = if (a.zip b).all (fun p => decide (p.1.vs = p.2.vs)) then (some (.exit 0, [(4, .undef)], []) : Out) else (some (.ret, [(4, .bool false)], []) : Out) := by
  have key := LoopS_all (run := (runD tab noExt (d + 1))) (draw := drawI (runD tab noExt (d + 1))) (live := [0, 1, 5]) (out := [4]) (c := L15x0) (n0 := ([] : Heap).length) (a.zip b) (fun p => decide (p.1.vs = p.2.vs)) (fun (i : Nat) => [(0, .sl c 1 (a.map Row.cells)), (1, .sl c' 1 (b.map Row.cells)), (5, .int .i64 i)]) [] (some (.exit 0, [(4, .undef)], []) : Out) (some (.ret, [(4, .bool false)], []) : Out) (fun K => ?_) (fun (i : Nat) (x : Row × Row) K hi hx => ?_) K hK
  · simp only [Int.natCast_zero] at key
    exact key
  · rw [LoopS_eq]
    simp -implicitDefEqProofs only [go_sem, Nat.reduceBEq, Nat.reduceAdd, Nat.reduceSub, Nat.reduceMul, Nat.reduceLeDiff, Nat.reduceEqDiff, Nat.reduceLT, Int.reduceNeg, Int.reduceAdd, Int.reduceSub, Int.reduceMul, Int.reduceLE, Int.reduceLT, Int.reduceEq, Int.reduceToNat, reduceCtorEq, evL15x0, B15x0, Int.lt_irrefl, List.length_zip, hlen, Nat.min_self, evC_draw, evD15x0, E15x0, Row.cells, Row.v]
  · obtain ⟨g1, g2⟩ := List.getElem?_zip_eq_some.1 hx; rw [List.length_zip, hlen, Nat.min_self] at hi; have hss := run_sameRow d x.1.clip x.2.clip x.1.vs x.2.vs (hsa _ (List.mem_of_getElem? g1))
    rw [LoopS_eq]
    simp -implicitDefEqProofs (disch := omega) only [go_sem, Nat.reduceBEq, Nat.reduceAdd, Nat.reduceSub, Nat.reduceMul, Nat.reduceLeDiff, Nat.reduceEqDiff, Nat.reduceLT, Int.reduceNeg, Int.reduceAdd, Int.reduceSub, Int.reduceMul, Int.reduceLE, Int.reduceLT, Int.reduceEq, Int.reduceToNat, reduceCtorEq, evL15x0, B15x0, hi, hx, IntWalk.i64_in, List.length_zip, hlen, Nat.min_self, evC_draw, evD15x0, E15x0, Row.cells, Row.v, *]
    repeat' ((first | rw [GuardI_ndec] | rw [CondC_ndec] | rw [GuardQ_ndec] | rw [GuardI_dec] | rw [CondC_dec] | rw [GuardQ_dec] | rw [GuardI_nby] | rw [CondC_nby] | rw [GuardQ_nby] | rw [GuardQ_by] | rw [GuardI_by] | rw [CondC_by]) <;> split <;> simp -implicitDefEqProofs (disch := omega) only [go_sem, Nat.reduceBEq, Nat.reduceAdd, Nat.reduceSub, Nat.reduceMul, Nat.reduceLeDiff, Nat.reduceEqDiff, Nat.reduceLT, Int.reduceNeg, Int.reduceAdd, Int.reduceSub, Int.reduceMul, Int.reduceLE, Int.reduceLT, Int.reduceEq, Int.reduceToNat, reduceCtorEq, hi, hx, IntWalk.i64_in, List.length_zip, hlen, Nat.min_self, evC_draw, evD15x0, E15x0, Row.cells, Row.v, *, *])
    all_goals first | rfl | (simp_all []; done) | (simp_all []; omega)
theorem zip_sames : ∀ (a b : List Row), a.length = b.length → ((a.zip b).all fun p => decide (p.1.vs = p.2.vs)) = decide (vss a = vss b)
  | [], [], _ => by simp
  | x :: a, y :: b, h => by
    have := zip_sames a b (by simpa using h)
    simp only [vss] at this
    simp only [List.zip_cons_cons, List.all_cons, this, vss, List.map_cons]
    by_cases h1 : x.vs = y.vs <;> by_cases h2 : a.map Row.vs = b.map Row.vs <;> simp [h1, h2]
  | [], _ :: _, h => by simp at h
  | _ :: _, [], h => by simp at h
-- find15
theorem run_sameRows (d : Nat) (c c' : Bool) (a b : List Row) (hs : a.length < 1099511627776) (hsa : ∀ r ∈ a, r.vs.length < 1099511627776) : retP (runD tab noExt (d + 2)) 15 [.sl c 1 (a.map Row.cells), .sl c' 1 (b.map Row.cells)] = some [.bool (decide (vss a = vss b))] := by
  rw [retP, runD_eq find15 _ _ _ (by simp)]
  by_cases hlen : a.length = b.length
  · have hl := loop_sameRows d c c' a b hs hsa hlen 1099511627775 (by simp; omega)
    simp -implicitDefEqProofs only [go_sem, Nat.reduceBEq, Nat.reduceAdd, Nat.reduceSub, Nat.reduceMul, Nat.reduceLeDiff, Nat.reduceEqDiff, Nat.reduceLT, Int.reduceNeg, Int.reduceAdd, Int.reduceSub, Int.reduceMul, Int.reduceLE, Int.reduceLT, Int.reduceEq, Int.reduceToNat, reduceCtorEq, hlen] at hl ⊢
    rw [hl, zip_sames a b hlen]
    by_cases h : vss a = vss b <;> simp -implicitDefEqProofs only [go_sem, Nat.reduceBEq, Nat.reduceAdd, Nat.reduceSub, Nat.reduceMul, Nat.reduceLeDiff, Nat.reduceEqDiff, Nat.reduceLT, Int.reduceNeg, Int.reduceAdd, Int.reduceSub, Int.reduceMul, Int.reduceLE, Int.reduceLT, Int.reduceEq, Int.reduceToNat, reduceCtorEq, h]
  · have h1 : ((a.length : Int) = b.length) = False := eq_false (by omega)
    have h2 : ¬ vss a = vss b := fun e => hlen (by have := congrArg List.length e; simpa [vss] using this)
    simp -implicitDefEqProofs only [go_sem, Nat.reduceBEq, Nat.reduceAdd, Nat.reduceSub, Nat.reduceMul, Nat.reduceLeDiff, Nat.reduceEqDiff, Nat.reduceLT, Int.reduceNeg, Int.reduceAdd, Int.reduceSub, Int.reduceMul, Int.reduceLE, Int.reduceLT, Int.reduceEq, Int.reduceToNat, reduceCtorEq, h1, h2]
end Go.Proofs.Ytfbjbkkcilhgjaa.PE
/- Rows of rows that grow, element by element, each of memory of its own. -/
set_option linter.unusedVariables false
set_option linter.unusedSimpArgs false
namespace Go.Proofs.Ytfbjbkkcilhgjaa.PE
open Go.RowKit

/-- What has been gathered up to now. -/
def Grown (fs : List Fd) (id : Nat) (h : Heap) (done : List (List V)) (xs : List (List U)) : Prop :=
  h[id]? = some (blkOf fs done.length done) ∧ ∃ ids, Zip3 (OwnR h fs) done xs ids ∧ (id :: ids).Nodup
theorem Grown.nest {fs : List Fd} {id : Nat} {h : Heap} {done : List (List V)} {xs : List (List U)} (g : Grown fs id h done xs) (hd : fs.any Fd.deep = true) : h[id]? = some (.nest done.length fs.length done) := by
  have := g.1
  unfold blkOf at this
  rw [hd] at this
  exact this
theorem Grown.len {fs : List Fd} {id : Nat} {h : Heap} {done : List (List V)} {xs : List (List U)} (g : Grown fs id h done xs) : done.length = xs.length := by
  obtain ⟨_, ids, z, _⟩ := g
  exact Zip3_len z
theorem Grown.lt {fs : List Fd} {id : Nat} {h : Heap} {done : List (List V)} {xs : List (List U)} (g : Grown fs id h done xs) : id < h.length := (List.getElem?_eq_some_iff.1 g.1).1
theorem Grown.frame {fs : List Fd} {id : Nat} {h h1 : Heap} {done : List (List V)} {xs : List (List U)} (g : Grown fs id h done xs) (keep : ∀ j, j < h.length → h1[j]? = h[j]?) : Grown fs id h1 done xs := by
  obtain ⟨g1, ids, z, nd⟩ := g
  refine ⟨(keep id (List.getElem?_eq_some_iff.1 g1).1).trans g1, ids, ?_, nd⟩
  exact Zip3_mono (P := fun _ => True) (fun c x i hr _ => OwnR_frame _ hr (fun j hj => keep j (OwnR_lt _ hr j hj))) z (fun _ _ => trivial)
theorem Grown.add {fs : List Fd} {id : Nat} {h h1 h2 : Heap} {done : List (List V)} {xs : List (List U)} {cells : List V} {x : List U} {js : List Nat} (g : Grown fs id h done xs) (own : OwnR h1 fs cells x js) (nd : js.Nodup)
    (fresh : ∀ j ∈ js, h.length ≤ j) (keep : ∀ j, j < h.length → h1[j]? = h[j]?) (e2 : h2 = h1.set id (blkOf fs (done.length + 1) (done ++ [cells]))) : Grown fs id h2 (done ++ [cells]) (xs ++ [x]) := by
  subst e2
  have hlt := g.lt
  obtain ⟨g1, ids, z, nd1⟩ := g
  have hl1 : id < h1.length := by
    have := keep id hlt
    rw [List.getElem?_eq_getElem hlt] at this
    exact (List.getElem?_eq_some_iff.1 this).1
  obtain ⟨n1, n2⟩ := List.nodup_cons.1 nd1
  have hids : ∀ j ∈ ids, j < h.length := Zip3_all (fun c x i hr => OwnR_lt fs hr) z
  refine ⟨by rw [List.getElem?_set_self hl1, List.length_append]; rfl, ids ++ js, Zip3_app (Zip3_mono (P := fun j => j ∈ ids) (fun c x i hr hp => OwnR_frame fs hr (fun j hj => ?_)) z (fun _ hm => hm)) (Zip3_one (OwnR_frame fs own (fun j hj => ?_))), ?_⟩
  · have hne : id ≠ j := fun e => n1 (e ▸ hp j hj)
    rw [List.getElem?_set_ne hne]
    exact keep j (hids j (hp j hj))
  · have hne : id ≠ j := fun e => by have := fresh j hj; omega
    rw [List.getElem?_set_ne hne]
  · refine List.nodup_cons.2 ⟨fun hm => ?_, List.nodup_append.2 ⟨n2, nd, fun p hp q hq => ?_⟩⟩
    · rcases List.mem_append.1 hm with hm | hm
      · exact n1 hm
      · have := fresh id hm; omega
    · have := hids p hp
      have := fresh q hq
      omega
theorem Grown.set {fs : List Fd} {id : Nat} {h h1 : Heap} {done : List (List V)} {xs : List (List U)} {k : Nat} {b : Blk} (g : Grown fs id h done xs) (hk : h.length ≤ k) : Grown fs id (h.set k b) done xs := by
  rw [List.set_eq_of_length_le hk]
  exact g
theorem Grown.own {fs : List Fd} {id : Nat} {h : Heap} {done : List (List V)} {xs : List (List U)} {n : Nat} {clip : Bool} (g : Grown fs id h done xs) (hn : n = done.length) : ∃ ids, OwnF h (.sub fs) (.ref id n 0 n clip) (.sub xs) ids ∧ ids.Nodup := by
  subst hn
  obtain ⟨g1, ids, z, nd⟩ := g
  refine ⟨id :: ids, ?_, nd⟩
  simp only [OwnF]
  exact ⟨xs, rfl, .inr ⟨id, done.length, clip, done, ids, rfl, g1, rfl, z⟩⟩
end Go.Proofs.Ytfbjbkkcilhgjaa.PE
/- Copies of rows as memory of one's own. -/
set_option linter.unusedVariables false
set_option linter.unusedSimpArgs false
set_option maxHeartbeats 4000000
namespace Go.Proofs.Ytfbjbkkcilhgjaa.PE
open Go.RowKit

theorem val_own (h : Heap) (v : Val) : OwnR h fdValue v.cells (valU v) [] := ownR_mk_Value h v.kind v.n v.s
theorem own_cloneVal (d : Nat) (c : Bool) (vs : List Val) (hl : vs.length < 4294967296) : ∃ v hc ids, runD tab noExt (d + 2) 126 [.sl c 3 (vs.map Val.cells)] [] = some ([v], hc) ∧ OwnF hc (.sub fdValue) v (.sub (vs.map valU)) ids ∧ ids.Nodup := by
  match vs, hl with
  | [], _ => exact ⟨_, _, [], runnVal d c, own_nil rfl, List.nodup_nil⟩
  | x :: r, hl => exact ⟨_, _, [0], runcVal d c ((x :: r).map Val.cells) (by simp) (by simpa using hl), own_row rfl (x :: r) (by simp) rfl (val_own _), by simp⟩
-- find67
theorem loop_copy (d : Nat) (c : Bool) (rs : List Row) (hf : Fine rs) : ∃ h' cont r, LoopK (runD tab noExt (d + 2)) (drawI (runD tab noExt (d + 2))) [3, 6, 7, 8] [3] L67x0 1099511627775 [(3, .ref 0 0 0 0 false), (6, .sl c 1 (rs.map Row.cells)), (7, .int .i64 rs.length), (8, .int .i64 0)] [.nest 0 1 []] = some (.exit 0, [(3, .ref 0 rs.length 0 rs.length false)], h') ∧ h'[0]? = some (.nest rs.length 1 cont) ∧ cont.length = rs.length ∧ Zip3 (OwnR h' fdValueS) cont (rs.map rowU) r ∧ (0 :: r).Nodup := by
  have hf0 := hf.1
  obtain ⟨h', ⟨done, ids, g1, g2, g3, g4, g5⟩, e⟩ := LoopK_inv (run := runD tab noExt (d + 2)) (draw := drawI (runD tab noExt (d + 2))) (live := [3, 6, 7, 8]) (out := [3]) (c := L67x0) rs.length
    (fun i (h : Heap) => ∃ done ids, h[0]? = some (.nest i 1 done) ∧ done.length = i ∧ Zip3 (OwnR h fdValueS) done ((rs.take i).map rowU) ids ∧ ids.Nodup ∧ 0 ∉ ids)
    (fun i _ => [(3, .ref 0 i 0 i false), (6, .sl c 1 (rs.map Row.cells)), (7, .int .i64 rs.length), (8, .int .i64 (i : Nat))]) (fun h => h) (fun h => some (.exit 0, [(3, .ref 0 rs.length 0 rs.length false)], h))
    (fun h K hb => by
      rw [LoopK_eq]
      simp -implicitDefEqProofs only [go_sem, Nat.reduceBEq, Nat.reduceAdd, Nat.reduceSub, Nat.reduceMul, Nat.reduceLeDiff, Nat.reduceEqDiff, Nat.reduceLT, Int.reduceNeg, Int.reduceAdd, Int.reduceSub, Int.reduceMul, Int.reduceLE, Int.reduceLT, Int.reduceEq, Int.reduceToNat, reduceCtorEq, evL67x0, B67x0, Int.lt_irrefl]) (fun i h K hi hb => by
      obtain ⟨done, ids, g1, g2, g3, g4, g5⟩ := hb
      have hx := List.getElem?_eq_getElem hi
      generalize rs[i] = x at hx
      obtain ⟨v, hc, is0, e1, e2, e3⟩ := own_cloneVal d x.clip x.vs (Fine_at hf hx)
      obtain ⟨w, h1, js, k1, k2, k3, k4, k5, k6⟩ := own_call (h := h) (args := [.sl x.clip 3 (x.vs.map Val.cells)]) (by simp only [pureDAs, mapO, pureDA, pureD]) e1 e2 e3
      have h0 : 0 < h.length := (List.getElem?_eq_some_iff.1 g1).1
      have h10 : 0 < h1.length := by omega
      have g1' : h1[0]? = some (.nest i 1 done) := by rw [k5 0 h0, g1]
      have hlt := Zip3_all (fun c x i hr => OwnR_lt fdValueS hr) g3
      have hj0 : 0 ∉ js := fun hm => by have := k4 0 hm; omega
      refine ⟨h1.set 0 (.nest (i + 1) 1 (done ++ [[w]])), ⟨done ++ [[w]], ids ++ js, ?_, by simp [g2], ?_, ?_, ?_⟩, ?_⟩
      · rw [List.getElem?_set_self h10]
      · rw [take_snoc hx, List.map_append]
        refine Zip3_app (Zip3_mono (P := fun id => id ∈ ids) (fun c x j hr hp => OwnR_frame _ hr (fun id hid => ?_)) g3 (fun _ h => h)) (Zip3_one ⟨w, [], _, [], js, [], rfl, rfl, by simp, OwnF_frame _ k2 (fun id hid => ?_), rfl, rfl, rfl⟩)
        · have hne : 0 ≠ id := fun e => g5 (e ▸ hp id hid)
          rw [List.getElem?_set_ne hne]
          exact k5 id (hlt id (hp id hid))
        · have hne : 0 ≠ id := fun e => hj0 (e ▸ hid)
          rw [List.getElem?_set_ne hne]
      · refine List.nodup_append.2 ⟨g4, k3, fun p hp q hq => ?_⟩
        have := hlt p hp
        have := k4 q hq
        omega
      · intro hm
        rcases List.mem_append.1 hm with hm | hm
        · exact g5 hm
        · exact hj0 hm
      · have hi' : (i : Int) < rs.length := by omega
        have hsm : done.length + 1 < 4294967296 := by omega
        rw [LoopK_eq]
        subst g2
        rcases own_cases k2 with ⟨c', rfl⟩ | ⟨id, st, n, clip, rfl⟩
        · simp -implicitDefEqProofs (disch := omega) only [go_sem, Nat.reduceBEq, Nat.reduceAdd, Nat.reduceSub, Nat.reduceMul, Nat.reduceLeDiff, Nat.reduceEqDiff, Nat.reduceLT, Int.reduceNeg, Int.reduceAdd, Int.reduceSub, Int.reduceMul, Int.reduceLE, Int.reduceLT, Int.reduceEq, Int.reduceToNat, reduceCtorEq, evL67x0, B67x0, hi', hx, Row.cells, Row.v, k1, g1', elemsN, elemN, listN, appendN, okN, hsm, IntWalk.i64_in, small]
        · simp -implicitDefEqProofs (disch := omega) only [go_sem, Nat.reduceBEq, Nat.reduceAdd, Nat.reduceSub, Nat.reduceMul, Nat.reduceLeDiff, Nat.reduceEqDiff, Nat.reduceLT, Int.reduceNeg, Int.reduceAdd, Int.reduceSub, Int.reduceMul, Int.reduceLE, Int.reduceLT, Int.reduceEq, Int.reduceToNat, reduceCtorEq, evL67x0, B67x0, hi', hx, Row.cells, Row.v, k1, g1', elemsN, elemN, listN, appendN, okN, hsm, IntWalk.i64_in, small]) 1099511627775 (by omega) [.nest 0 1 []] ⟨[], [], rfl, rfl, rfl, List.nodup_nil, by simp⟩
  rw [List.take_of_length_le (Nat.le_refl _)] at g3
  exact ⟨h', done, ids, e, g1, g2, g3, List.nodup_cons.2 ⟨g5, g4⟩⟩
theorem clip_nest (d : Nat) (h : Heap) (n : Nat) {cont : List (List V)} (hb : h[0]? = some (.nest n 1 cont)) (hn : cont.length = n) : callX (runD tab noExt (d + 1)) h 2 87 [.ref 0 n 0 n false] = some (.ref 0 n 0 n true, h) := by
  simp only [callX, callK]
  rw [runD_eq find87 _ _ _ (by simp)]
  simp -implicitDefEqProofs (disch := omega) only [go_sem, Nat.reduceBEq, Nat.reduceAdd, Nat.reduceSub, Nat.reduceMul, Nat.reduceLeDiff, Nat.reduceEqDiff, Nat.reduceLT, Int.reduceNeg, Int.reduceAdd, Int.reduceSub, Int.reduceMul, Int.reduceLE, Int.reduceLT, Int.reduceEq, Int.reduceToNat, reduceCtorEq, Bool.true_or, resOk, hb, hn]
theorem own_rowsCopy (d : Nat) (c : Bool) (rs : List Row) (hf : Fine rs) : ∃ v hc ids, runD tab noExt (d + 3) 67 [.sl c 1 (rs.map Row.cells)] [] = some ([v], hc) ∧ OwnF hc (.sub fdValueS) v (.sub (rs.map rowU)) ids ∧ ids.Nodup := by
  obtain ⟨h', cont, r, e, e1, e2, e3, e4⟩ := loop_copy d c rs hf
  refine ⟨.ref 0 rs.length 0 rs.length true, h', 0 :: r, ?_, ?_, e4⟩
  · rw [runD_eq find67 _ _ _ (by simp)]
    have h0 := hf.1
    have hc := clip_nest (d + 1) h' rs.length e1 e2
    simp -implicitDefEqProofs (disch := omega) only [go_sem, Nat.reduceBEq, Nat.reduceAdd, Nat.reduceSub, Nat.reduceMul, Nat.reduceLeDiff, Nat.reduceEqDiff, Nat.reduceLT, Int.reduceNeg, Int.reduceAdd, Int.reduceSub, Int.reduceMul, Int.reduceLE, Int.reduceLT, Int.reduceEq, Int.reduceToNat, reduceCtorEq]
    try simp -implicitDefEqProofs only [go_sem, Nat.reduceBEq, Nat.reduceAdd, Nat.reduceSub, Nat.reduceMul, Nat.reduceLeDiff, Nat.reduceEqDiff, Nat.reduceLT, Int.reduceNeg, Int.reduceAdd, Int.reduceSub, Int.reduceMul, Int.reduceLE, Int.reduceLT, Int.reduceEq, Int.reduceToNat, reduceCtorEq] at e
    rw [e]
    simp -implicitDefEqProofs (disch := omega) only [go_sem, Nat.reduceBEq, Nat.reduceAdd, Nat.reduceSub, Nat.reduceMul, Nat.reduceLeDiff, Nat.reduceEqDiff, Nat.reduceLT, Int.reduceNeg, Int.reduceAdd, Int.reduceSub, Int.reduceMul, Int.reduceLE, Int.reduceLT, Int.reduceEq, Int.reduceToNat, reduceCtorEq, hc]
  · simp only [OwnF]
    exact ⟨_, rfl, .inr ⟨0, rs.length, true, cont, r, by rw [e2], e1, rfl, e3⟩⟩
end Go.Proofs.Ytfbjbkkcilhgjaa.PE
/- The row that a key has at a time, and the rows at a time: the program's. -/
set_option linter.unusedVariables false
set_option linter.unusedSimpArgs false
set_option maxHeartbeats 4000000
namespace Go.Proofs.Ytfbjbkkcilhgjaa.PE
open Go.RowKit

-- find81
def addRowI (l : List Ver) (time : Int) (b : List Row) (k : Int) : List Row := match l.find? (Ver.at k time) with
  | some v => b ++ [v.row]
  | none => b
theorem addRowI_len {l : List Ver} {time k : Int} {b : List Row} {i : Nat} (h : b.length ≤ i) : (addRowI l time b k).length ≤ i + 1 := by
  unfold addRowI
  split
  · simp; omega
  · omega
theorem addRowI_eq (l : List Ver) (time : Int) (hok : versOk l = true) : ∀ (ks : List Int) (b : List Row), (ks.foldl (addRowI l time) b).map rowU = b.map rowU ++ ((ks.filterMap fun k => rowV l k time).map (Row.mk false)).map rowU
  | [], b => by simp
  | k :: ks, b => by
    rw [List.foldl_cons, addRowI_eq l time hok ks]
    have e : rowV l k time = (l.find? (Ver.at k time)).map fun v => v.row.vs := by unfold rowV rowAt; rw [hok]; rfl
    unfold addRowI
    cases h : l.find? (Ver.at k time) with
    | none => rw [h] at e; simp at e; simp [e]
    | some v => rw [h] at e; simp at e; simp [e, rowU]
theorem addRowI_fine (l : List Ver) (time : Int) (hfn : ∀ v ∈ l, v.row.vs.length < 4294967296) : ∀ (ks : List Int) (b : List Row), (∀ r ∈ b, r.vs.length < 4294967296) → ∀ r ∈ ks.foldl (addRowI l time) b, r.vs.length < 4294967296
  | [], b, hb => hb
  | k :: ks, b, hb => by
    refine addRowI_fine l time hfn ks _ (fun r hr => ?_)
    unfold addRowI at hr
    split at hr
    · rename_i v hv
      rcases List.mem_append.1 hr with hr | hr
      · exact hb r hr
      · rw [List.mem_singleton.1 hr]
        exact hfn v (List.mem_of_find?_eq_some hv)
    · exact hb r hr
theorem loop_rowsAtI (d : Nat) (c : Bool) (l : List Ver) (time : Int) (hs : l.length < 1099511627776) (K : Nat) (hK : (keys5).length ≤ K) (b0 : List Row) (hb0 : (fun (i : Nat) (b : List Row) => b.length ≤ i) 0 b0) : LoopS (runD tab noExt (d + 1)) (drawI (runD tab noExt (d + 1))) [0, 1, 5, 12] [5] L16x0 ([.rows (b0).length 1 ((b0).map Row.cells)] : Heap).length K [(0, .sl c 4 (l.map Ver.cells)), (1, .int .i64 time), (5, .ref 0 (b0).length 0 (b0).length false), (12, .int .i64 (0 : Nat))] [.rows (b0).length 1 ((b0).map Row.cells)] = (some (.exit 0, [(5, .ref 0 (((keys5).foldl (addRowI l time) b0)).length 0 (((keys5).foldl (addRowI l time) b0)).length false)], [.rows (((keys5).foldl (addRowI l time) b0)).length 1 ((((keys5).foldl (addRowI l time) b0)).map Row.cells)]) : Out) ∧ (fun (i : Nat) (b : List Row) => b.length ≤ i) (keys5).length ((keys5).foldl (addRowI l time) b0) := by
  have key := LoopS_foldI (run := (runD tab noExt (d + 1))) (draw := drawI (runD tab noExt (d + 1))) (live := [0, 1, 5, 12]) (out := [5]) (c := L16x0) (n0 := ([.rows (b0).length 1 ((b0).map Row.cells)] : Heap).length) (keys5) (addRowI l time) (fun (i : Nat) (b : List Row) => b.length ≤ i) (fun (i : Nat) (b : List Row) => [(0, .sl c 4 (l.map Ver.cells)), (1, .int .i64 time), (5, .ref 0 (b).length 0 (b).length false), (12, .int .i64 (i : Nat))]) (fun (i : Nat) (b : List Row) => [.rows (b).length 1 ((b).map Row.cells)]) (fun b => (some (.exit 0, [(5, .ref 0 (b).length 0 (b).length false)], [.rows (b).length 1 ((b).map Row.cells)]) : Out)) (fun b K hb => ?_) (fun (i : Nat) (x : Int) b K hi hx hb => ?_) K hK b0 hb0
  · simp only [Int.natCast_zero] at key
    exact key
  · rw [LoopS_eq]
    simp -implicitDefEqProofs only [go_sem, Nat.reduceBEq, Nat.reduceAdd, Nat.reduceSub, Nat.reduceMul, Nat.reduceLeDiff, Nat.reduceEqDiff, Nat.reduceLT, Int.reduceNeg, Int.reduceAdd, Int.reduceSub, Int.reduceMul, Int.reduceLE, Int.reduceLT, Int.reduceEq, Int.reduceToNat, reduceCtorEq, evL16x0, B16x0, Int.lt_irrefl, keys5_len]
  · obtain ⟨rfl, hi5⟩ := keys_at hx; have hsm : b.length + 1 < 4294967296 := (by simp [keys5] at hi; omega); have hseen := run_seen d c l (i : Int) time hs; cases hq : l.find? (Ver.at (i : Int) time) <;> simp only [hq, Option.isSome_none, Option.isSome_some, Option.getD_none, Option.getD_some, Ver.cells, Row.v] at hseen
    all_goals
      refine ⟨?_, ?_⟩
      · exact addRowI_len hb
      · rw [LoopS_eq]
        simp -implicitDefEqProofs (disch := first | omega | assumption) only [go_sem, Nat.reduceBEq, Nat.reduceAdd, Nat.reduceSub, Nat.reduceMul, Nat.reduceLeDiff, Nat.reduceEqDiff, Nat.reduceLT, Int.reduceNeg, Int.reduceAdd, Int.reduceSub, Int.reduceMul, Int.reduceLE, Int.reduceLT, Int.reduceEq, Int.reduceToNat, reduceCtorEq, evL16x0, B16x0, hi, hx, IntWalk.i64_in, List.map_append, List.foldl_cons, keys5_len, hseen, hsm, hi5, Row.cells, Row.v]
        (simp -implicitDefEqProofs (disch := first | omega | assumption) only [go_sem, Nat.reduceBEq, Nat.reduceAdd, Nat.reduceSub, Nat.reduceMul, Nat.reduceLeDiff, Nat.reduceEqDiff, Nat.reduceLT, Int.reduceNeg, Int.reduceAdd, Int.reduceSub, Int.reduceMul, Int.reduceLE, Int.reduceLT, Int.reduceEq, Int.reduceToNat, reduceCtorEq, addRowI, hq, hseen, Row.cells, Row.v, List.map_append, List.map_cons, List.map_nil, IntWalk.i64_in])
-- find16
theorem own_rowsAt (d : Nat) (c : Bool) (l : List Ver) (time : Int) (hs : l.length < 1099511627776) (hsh : ShortVs l) (hfn : ∀ v ∈ l, v.row.vs.length < 4294967296) : ∃ v hc ids, runD tab noExt (d + 9) 16 [.sl c 4 (l.map Ver.cells), .int .i64 time] [] = some ([v], hc) ∧ OwnF hc (.sub fdValueS) v (.sub ((rowsAtV l time).map rowU)) ids ∧ ids.Nodup := by
  have hv := run_versI d c l hs hsh
  cases hok : versOk l
  · rw [hok] at hv
    have e : rowsAtV l time = [] := by
      rw [rowsAtV_eq]
      simp [keys5, rowV, rowAt, hok]
    rw [e]
    refine ⟨.sl true 1 [], [], [], ?_, own_nil rfl, List.nodup_nil⟩
    rw [runD_eq find16 _ _ _ (by simp)]
    simp -implicitDefEqProofs (disch := omega) only [go_sem, Nat.reduceBEq, Nat.reduceAdd, Nat.reduceSub, Nat.reduceMul, Nat.reduceLeDiff, Nat.reduceEqDiff, Nat.reduceLT, Int.reduceNeg, Int.reduceAdd, Int.reduceSub, Int.reduceMul, Int.reduceLE, Int.reduceLT, Int.reduceEq, Int.reduceToNat, reduceCtorEq, hv]
  · rw [hok] at hv
    obtain ⟨hl, hlen⟩ := loop_rowsAtI (d + 7) c l time hs 1099511627775 (by simp [keys5]) [] (by simp)
    have e : (keys5.foldl (addRowI l time) []).map rowU = (rowsAtV l time).map rowU := by
      rw [addRowI_eq l time hok, rowsAtV_eq]
      rfl
    have hfin : Fine (keys5.foldl (addRowI l time) []) := ⟨by simp [keys5] at hlen ⊢; omega, addRowI_fine l time hfn keys5 [] (fun r hr => by cases hr)⟩
    generalize keys5.foldl (addRowI l time) [] = rs at hl hlen e hfin
    have et : List.take rs.length (rs.map Row.cells) = rs.map Row.cells := List.take_of_length_le (by simp)
    obtain ⟨v1, hc, is0, e1, e2, e3⟩ := own_rowsCopy (d + 5) false rs hfin
    obtain ⟨w, h1, js, k1, k2, k3, k4, k5, k6⟩ := own_call (h := [.rows rs.length 1 (rs.map Row.cells)]) (args := [.ref 0 rs.length 0 rs.length false]) (by simp only [pureDAs, mapO, pureDA, pureD, deepest, List.getElem?_cons_zero, if_true, List.drop_zero, et]) e1 e2 e3
    simp only [List.length_nil, List.map_nil, Int.natCast_zero, List.length_cons] at hl
    rw [e] at k2
    refine ⟨w, h1, js, ?_, k2, k3⟩
    rw [runD_eq find16 _ _ _ (by simp)]
    simp -implicitDefEqProofs (disch := omega) only [go_sem, Nat.reduceBEq, Nat.reduceAdd, Nat.reduceSub, Nat.reduceMul, Nat.reduceLeDiff, Nat.reduceEqDiff, Nat.reduceLT, Int.reduceNeg, Int.reduceAdd, Int.reduceSub, Int.reduceMul, Int.reduceLE, Int.reduceLT, Int.reduceEq, Int.reduceToNat, reduceCtorEq, hv]
    try simp -implicitDefEqProofs only [go_sem, Nat.reduceBEq, Nat.reduceAdd, Nat.reduceSub, Nat.reduceMul, Nat.reduceLeDiff, Nat.reduceEqDiff, Nat.reduceLT, Int.reduceNeg, Int.reduceAdd, Int.reduceSub, Int.reduceMul, Int.reduceLE, Int.reduceLT, Int.reduceEq, Int.reduceToNat, reduceCtorEq] at hl
    rw [hl]
    rcases own_cases k2 with ⟨c', rfl⟩ | ⟨id, st, n, clip, rfl⟩
    · simp -implicitDefEqProofs (disch := first | omega | assumption) only [go_sem, Nat.reduceBEq, Nat.reduceAdd, Nat.reduceSub, Nat.reduceMul, Nat.reduceLeDiff, Nat.reduceEqDiff, Nat.reduceLT, Int.reduceNeg, Int.reduceAdd, Int.reduceSub, Int.reduceMul, Int.reduceLE, Int.reduceLT, Int.reduceEq, Int.reduceToNat, reduceCtorEq, k1, resOk]
    · simp -implicitDefEqProofs (disch := first | omega | assumption) only [go_sem, Nat.reduceBEq, Nat.reduceAdd, Nat.reduceSub, Nat.reduceMul, Nat.reduceLeDiff, Nat.reduceEqDiff, Nat.reduceLT, Int.reduceNeg, Int.reduceAdd, Int.reduceSub, Int.reduceMul, Int.reduceLE, Int.reduceLT, Int.reduceEq, Int.reduceToNat, reduceCtorEq, k1, resOk]
end Go.Proofs.Ytfbjbkkcilhgjaa.PE
/- Versions as trees: what their sizes say, that only their values matter. -/
set_option linter.unusedVariables false
set_option linter.unusedSimpArgs false
set_option maxHeartbeats 4000000
namespace Go.Proofs.Ytfbjbkkcilhgjaa.PE
open Go.RowKit

def verU (v : Ver) : List U := [.int v.key, .int v.born, .int v.died, .sub (v.row.vs.map valU)]
/-- What a key has comes from a version. -/
theorem rowV_mem {l : List Ver} {k t : Int} {vs : List Val} (h : rowV l k t = some vs) : ∃ v ∈ l, v.row.vs = vs := by
  unfold rowV rowAt at h
  split at h
  · obtain ⟨v, hv, rfl⟩ := Option.map_eq_some_iff.1 h
    exact ⟨v, List.mem_of_find?_eq_some hv, rfl⟩
  · cases h
end Go.Proofs.Ytfbjbkkcilhgjaa.PE
/- Calls whose results are memory of one's own, and a number beside it. -/
set_option linter.unusedVariables false
set_option linter.unusedSimpArgs false
namespace Go.Proofs.Ytfbjbkkcilhgjaa.PE
open Go.RowKit

theorem own_callAS {run : Run} {h : Heap} {f : Nat} {args args' : List V} {cs : List V} {s : V} {hc : Heap} {fs : List Fd} {x : List U} {ids : List Nat} (hp : pureDAs h args = some args') (hr : run f args' [] = some ([.agg cs, s], hc)) (ho : OwnR hc fs cs x ids) (hn : ids.Nodup) (hs : cs.all scalar = false) (hsc : scalar s = true) :
    ∃ cs' h' ids', callX run h 0 f args = some (.tup [.agg cs', s], h') ∧ OwnR h' fs cs' x ids' ∧ ids'.Nodup ∧ (∀ j ∈ ids', h.length ≤ j) ∧ (∀ j, j < h.length → h'[j]? = h[j]?) ∧ h.length ≤ h'.length := by
  have hf := OwnR_fresh fs ho
  refine ⟨cs.map (shC h.length), h ++ movedH h.length hc, ids.map (· + h.length), ?_, OwnR_moved _ ho, ?_, fun j hj => ?_, fun j hj => by rw [List.getElem?_append_left hj], by simp⟩
  · cases s <;> first | (simp only [callX, callO, hp, hr, BackO, List.all_cons, List.all_nil, scalarA, freshA, freshC, shC, hs, hf, Bool.false_eq_true, Bool.false_and, Bool.true_and, Bool.and_self, if_false, if_true, List.map_cons, List.map_nil, oneOf, shA]; done) | cases hsc
  · exact (List.pairwise_map.2 (List.Pairwise.imp (fun {a b} hab => by simp only [ne_eq] at hab ⊢; omega) hn))
  · obtain ⟨i, _, rfl⟩ := List.mem_map.1 hj
    omega
theorem pureDA_sl (h : Heap) (c : Bool) (n : Nat) (xs : List (List V)) : pureDA h (.sl c n xs) = some (.sl c n xs) := rfl
end Go.Proofs.Ytfbjbkkcilhgjaa.PE
/- The table at a time: the program's. -/
set_option linter.unusedVariables false
set_option linter.unusedSimpArgs false
set_option maxHeartbeats 4000000
namespace Go.Proofs.Ytfbjbkkcilhgjaa.PE
open Go.RowKit

theorem clipkCol (d : Nat) (l : List (List V)) (n : Nat) (hn : n = l.length) : callX (runD tab noExt (d + 1)) [.rows 0 2 l] 2 195 [.ref 0 0 0 n false] = some (.ref 0 0 0 n true, [.rows 0 2 l]) := by
  subst hn
  simp only [callX, callK]
  rw [runD_eq find195 _ _ _ (by simp)]
  simp -implicitDefEqProofs (disch := omega) only [go_sem, Nat.reduceBEq, Nat.reduceAdd, Nat.reduceSub, Nat.reduceMul, Nat.reduceLeDiff, Nat.reduceEqDiff, Nat.reduceLT, Int.reduceNeg, Int.reduceAdd, Int.reduceSub, Int.reduceMul, Int.reduceLE, Int.reduceLT, Int.reduceEq, Int.reduceToNat, reduceCtorEq, List.take_length, Bool.true_or, resOk]
theorem runcCol (d : Nat) (c : Bool) (l : List (List V)) (h0 : 0 < l.length) (hl : l.length < 4294967296) : runD tab noExt (d + 2) 172 [.sl c 2 l] [] = some ([.ref 0 0 0 l.length true], [.rows 0 2 l]) := by
  rw [runD_eq find172 _ _ _ (by simp)]
  match l, h0, hl with
  | [], h0, _ => exact absurd h0 (by decide)
  | x :: r, _, hl =>
    have h0 : ((r.length : Int) + 1 = 0) = False := eq_false (by omega)
    have h1 : r.length + 1 < 4294967296 := by simpa using hl
    have hc := clipkCol d (x :: r) (r.length + 1) (by simp)
    simp -implicitDefEqProofs (disch := omega) only [go_sem, Nat.reduceBEq, Nat.reduceAdd, Nat.reduceSub, Nat.reduceMul, Nat.reduceLeDiff, Nat.reduceEqDiff, Nat.reduceLT, Int.reduceNeg, Int.reduceAdd, Int.reduceSub, Int.reduceMul, Int.reduceLE, Int.reduceLT, Int.reduceEq, Int.reduceToNat, reduceCtorEq, List.length_cons, h0, h1, hc]
theorem runnCol (d : Nat) (c : Bool) : runD tab noExt (d + 2) 172 [.sl c 2 []] [] = some ([.sl true 2 []], []) := by
  rw [runD_eq find172 _ _ _ (by simp)]
  simp -implicitDefEqProofs (disch := omega) only [go_sem, Nat.reduceBEq, Nat.reduceAdd, Nat.reduceSub, Nat.reduceMul, Nat.reduceLeDiff, Nat.reduceEqDiff, Nat.reduceLT, Int.reduceNeg, Int.reduceAdd, Int.reduceSub, Int.reduceMul, Int.reduceLE, Int.reduceLT, Int.reduceEq, Int.reduceToNat, reduceCtorEq]
theorem col_own (h : Heap) (v : Col) : OwnR h fdColumn v.cells (colU v) [] := ownR_mk_Column h v.kind v.empty
theorem own_cloneCol (d : Nat) (c : Bool) (cs : List Col) (hl : cs.length < 4294967296) : ∃ v hc ids, runD tab noExt (d + 2) 172 [.sl c 2 (cs.map Col.cells)] [] = some ([v], hc) ∧ OwnF hc (.sub fdColumn) v (.sub (cs.map colU)) ids ∧ ids.Nodup := by
  match cs, hl with
  | [], _ => exact ⟨_, _, [], runnCol d c, own_nil rfl, List.nodup_nil⟩
  | x :: r, hl => exact ⟨_, _, [0], runcCol d c ((x :: r).map Col.cells) (by simp) (by simpa using hl), own_row rfl (x :: r) (by simp) rfl (col_own _), by simp⟩
-- find122
theorem own_tableCopy (d : Nat) (c c' : Bool) (cs : List Col) (rs : List Row) (hl : cs.length < 4294967296) (hf : Fine rs) : ∃ cells hc ids, runD tab noExt (d + 4) 122 [.agg [.sl c 2 (cs.map Col.cells), .sl c' 1 (rs.map Row.cells)]] [] = some ([.agg cells], hc) ∧ OwnR hc fdTable cells [.sub (cs.map colU), .sub (rs.map rowU)] ids ∧ ids.Nodup ∧ cells.all scalar = false := by
  obtain ⟨v0, c0, i0, r0, o0, n0⟩ := own_cloneCol (d + 1) c cs hl
  obtain ⟨v1, c1, i1, r1, o1, n1⟩ := own_rowsCopy d c' rs hf
  obtain ⟨w0, h0, j0, e0, a0, m0, b0, f0, l0⟩ := own_call (h := [.box [.sl c 2 (cs.map Col.cells), .sl c' 1 (rs.map Row.cells)], .box [.sl true 2 [], .sl true 1 []]]) (args := [.sl c 2 (cs.map Col.cells)]) (by simp only [pureDAs, mapO, pureDA, pureD]) r0 o0 n0
  obtain ⟨w1, h1, j1, e1, a1, m1, b1, f1, l1⟩ := own_call (h := h0) (args := [.sl c' 1 (rs.map Row.cells)]) (by simp only [pureDAs, mapO, pureDA, pureD]) r1 o1 n1
  have q0 : h0[0]? = some (.box [.sl c 2 (cs.map Col.cells), .sl c' 1 (rs.map Row.cells)]) := f0 0 (by simp)
  have q1 : h0[1]? = some (.box [.sl true 2 [], .sl true 1 []]) := f0 1 (by simp)
  have z0 : 1 < h0.length := (List.getElem?_eq_some_iff.1 q1).1
  have p1 : h1[1]? = some (.box [.sl true 2 [], .sl true 1 []]) := (f1 1 z0).trans q1
  have p0 : h1[0]? = some (.box [.sl c 2 (cs.map Col.cells), .sl c' 1 (rs.map Row.cells)]) := (f1 0 (by omega)).trans q0
  have z1 : 1 < h1.length := (List.getElem?_eq_some_iff.1 p1).1
  have L : ∀ (b : Blk) (j : Nat), 2 ≤ j → (h1.set 1 b)[j]? = h1[j]? := fun b j hj => by rw [List.getElem?_set_ne (by omega)]
  have hw0 := own_cases a0
  have hw1 := own_cases a1
  simp only [List.length_cons, List.length_nil] at b0 l0
  refine ⟨[w0, w1], h1.set 1 (.box [w0, w1]), j0 ++ j1, ?_, ownR_mk_Table (OwnF_frame _ a0 (fun j hj => ?_)) (OwnF_frame _ a1 (fun j hj => ?_)), ?_, ?_⟩
  · rw [runD_eq find122 _ _ _ (by simp)]
    rcases hw0 with ⟨k, rfl⟩ | ⟨k, s, n, t, rfl⟩ <;> rcases hw1 with ⟨k1, rfl⟩ | ⟨k1, s1, n1, t1, rfl⟩ <;> simp -implicitDefEqProofs (disch := first | omega | (simp only [List.length_set]; omega)) only [go_sem, Nat.reduceBEq, Nat.reduceAdd, Nat.reduceSub, Nat.reduceMul, Nat.reduceLeDiff, Nat.reduceEqDiff, Nat.reduceLT, Int.reduceNeg, Int.reduceAdd, Int.reduceSub, Int.reduceMul, Int.reduceLE, Int.reduceLT, Int.reduceEq, Int.reduceToNat, reduceCtorEq, evC_draw, evD122x0, E122x0, e0, e1, q0, q1, p0, p1, z0, z1, List.getElem?_set_self, List.getElem?_set_ne, List.length_set, okN]
  · rw [L _ _ (by have := b0 j hj; omega), f1 j (OwnF_lt _ a0 j hj)]
  · rw [L _ _ (by have := b1 j hj; omega)]
  · refine List.nodup_append.2 ⟨m0, m1, fun x hx y hy => ?_⟩
    have g1 := OwnF_lt _ a0 x hx
    have g2 := b1 y hy
    omega
  · rcases hw0 with ⟨q, rfl⟩ | ⟨q, s, t, u, rfl⟩ <;> simp [scalar]
-- find60
theorem own_tableOf (d : Nat) (c c' : Bool) (cs : List Col) (rs : List Row) (hl : cs.length < 4294967296) (hf : Fine rs) (hsh : Short rs) (h6 : rs.length ≤ 6) : ∃ cells hc ids, runD tab noExt (d + 17) 60 [.sl c 2 (cs.map Col.cells), .sl c' 1 (rs.map Row.cells)] [] = some ([.agg cells, .bool (rowsOk cs rs)], hc) ∧ OwnR hc fdTable cells [.sub (if rowsOk cs rs then cs.map colU else []), .sub (if rowsOk cs rs then rs.map rowU else [])] ids ∧ ids.Nodup ∧ cells.all scalar = false := by
  have ht := run_tablesOkI d true [⟨c, cs, c', rs⟩] (by simp) (fun t ht => by rw [List.mem_singleton.1 ht]; exact ⟨by simp only; omega, by simp only; have := hf.1; omega, hsh⟩)
  have e : tablesOk [⟨c, cs, c', rs⟩] = rowsOk cs rs := by
    have h6' : ¬ (6 : Int) < rs.length := by omega
    simp [tablesOk, tblOk, h6']
  rw [e] at ht
  simp only [List.map_cons, List.map_nil, Tbl.cells] at ht
  cases hok : rowsOk cs rs
  · rw [hok] at ht
    refine ⟨[.sl true 2 [], .sl true 1 []], [.box [.sl true 2 [], .sl true 1 []], .box [.sl c 2 (cs.map Col.cells), .sl c' 1 (rs.map Row.cells)]], [], ?_, ownR_mk_Table (own_nil rfl) (own_nil rfl), List.nodup_nil, rfl⟩
    rw [runD_eq find60 _ _ _ (by simp)]
    simp -implicitDefEqProofs (disch := omega) only [go_sem, Nat.reduceBEq, Nat.reduceAdd, Nat.reduceSub, Nat.reduceMul, Nat.reduceLeDiff, Nat.reduceEqDiff, Nat.reduceLT, Int.reduceNeg, Int.reduceAdd, Int.reduceSub, Int.reduceMul, Int.reduceLE, Int.reduceLT, Int.reduceEq, Int.reduceToNat, reduceCtorEq, ht]
  · rw [hok] at ht
    obtain ⟨v0, c0, i0, r0, o0, n0, s0⟩ := own_tableCopy (d + 12) c c' cs rs hl hf
    obtain ⟨cs', h', j0, e0, a0, m0, b0, f0, l0⟩ := own_callA (h := [.box [.sl true 2 [], .sl true 1 []], .box [.sl c 2 (cs.map Col.cells), .sl c' 1 (rs.map Row.cells)]]) (args := [.agg [.sl c 2 (cs.map Col.cells), .sl c' 1 (rs.map Row.cells)]]) (by simp only [pureDAs, mapO, pureDA, pureD, deepest, Option.map_some]) r0 o0 n0 s0
    have q0 : h'[0]? = some (.box [.sl true 2 [], .sl true 1 []]) := f0 0 (by simp)
    have z0 : 0 < h'.length := (List.getElem?_eq_some_iff.1 q0).1
    simp only [List.length_cons, List.length_nil] at b0
    obtain ⟨p0, y0, p1, y1, i0', i1', rfl, e1, rfl, g0, g1⟩ := ownR_Table a0
    have hw0 := own_cases g0
    have hw1 := own_cases g1
    refine ⟨[p0, p1], h'.set 0 (.box [p0, p1]), i0' ++ i1', ?_, OwnR_frame _ a0 (fun j hj => ?_), m0, ?_⟩
    · rw [runD_eq find60 _ _ _ (by simp)]
      rcases hw0 with ⟨k, rfl⟩ | ⟨k, s, n, t, rfl⟩ <;> rcases hw1 with ⟨k1, rfl⟩ | ⟨k1, s1, n1, t1, rfl⟩ <;> simp -implicitDefEqProofs (disch := omega) only [go_sem, Nat.reduceBEq, Nat.reduceAdd, Nat.reduceSub, Nat.reduceMul, Nat.reduceLeDiff, Nat.reduceEqDiff, Nat.reduceLT, Int.reduceNeg, Int.reduceAdd, Int.reduceSub, Int.reduceMul, Int.reduceLE, Int.reduceLT, Int.reduceEq, Int.reduceToNat, reduceCtorEq, ht, e0, q0, z0, List.getElem?_set_self, okN]
    · rw [List.getElem?_set_ne (by have := b0 j hj; omega)]
    · rcases hw0 with ⟨q, rfl⟩ | ⟨q, s, t, u, rfl⟩ <;> simp [scalar]
def tabOk (cs : List Col) (l : List Ver) (time : Int) : Bool := versOk l && rowsOk cs (rowsAtV l time)
-- find12
theorem own_tableAt (d : Nat) (c c' : Bool) (cs : List Col) (l : List Ver) (time : Int) (hl : cs.length < 4294967296) (hs : l.length < 1099511627776) (hsh : ShortVs l) (hfn : ∀ v ∈ l, v.row.vs.length < 4294967296) :
    ∃ cells hc ids, runD tab noExt (d + 18) 12 [.sl c 2 (cs.map Col.cells), .sl c' 4 (l.map Ver.cells), .int .i64 time] [] = some ([.agg cells, .bool (tabOk cs l time)], hc) ∧ OwnR hc fdTable cells [.sub (if tabOk cs l time then cs.map colU else []), .sub (if tabOk cs l time then (rowsAtV l time).map rowU else [])] ids ∧ ids.Nodup ∧ cells.all scalar = false := by
  have hv := run_versI (d + 9) c' l hs hsh
  unfold tabOk
  cases hok : versOk l
  · rw [hok] at hv
    refine ⟨[.sl true 2 [], .sl true 1 []], [.box [.sl true 2 [], .sl true 1 []]], [], ?_, ownR_mk_Table (own_nil rfl) (own_nil rfl), List.nodup_nil, rfl⟩
    rw [runD_eq find12 _ _ _ (by simp)]
    simp -implicitDefEqProofs (disch := omega) only [go_sem, Nat.reduceBEq, Nat.reduceAdd, Nat.reduceSub, Nat.reduceMul, Nat.reduceLeDiff, Nat.reduceEqDiff, Nat.reduceLT, Int.reduceNeg, Int.reduceAdd, Int.reduceSub, Int.reduceMul, Int.reduceLE, Int.reduceLT, Int.reduceEq, Int.reduceToNat, reduceCtorEq, hv]
  · rw [hok] at hv
    obtain ⟨v1, hc1, is1, r1, o1, n1⟩ := own_rowsAt (d + 8) c' l time hs hsh hfn
    obtain ⟨w1, h1, j1, e1, a1, m1, b1, f1, l1⟩ := own_call (h := [.box [.sl true 2 [], .sl true 1 []]]) (args := [.sl c' 4 (l.map Ver.cells), .int .i64 time]) (by simp only [pureDAs, mapO, pureDA, pureD]) r1 o1 n1
    obtain ⟨q, xq, yq⟩ := pureDA_own a1 (by decide)
    obtain ⟨c2, rs, rfl, hrs⟩ := rows_each yq
    have hlen : rs.length ≤ 5 := by
      have := congrArg List.length hrs
      simp only [List.length_map] at this
      have := rowsAtV_len l time
      omega
    have hmem : ∀ r ∈ rs, ∃ v ∈ l, v.row.vs = r.vs := by
      intro r hr
      have hr2 : rowU r ∈ (rowsAtV l time).map rowU := by rw [← hrs]; exact List.mem_map_of_mem hr
      obtain ⟨r2, hr2, e⟩ := List.mem_map.1 hr2
      rw [rowsAtV_eq] at hr2
      obtain ⟨vs, hvs, rfl⟩ := List.mem_map.1 hr2
      obtain ⟨k, _, hk⟩ := List.mem_filterMap.1 hvs
      obtain ⟨v, hv, e2⟩ := rowV_mem hk
      refine ⟨v, hv, ?_⟩
      rw [e2]
      exact vsU_inj (by simpa [rowU] using e)
    have hfin : Fine rs := ⟨by omega, fun r hr => by obtain ⟨v, hv, e⟩ := hmem r hr; rw [← e]; exact hfn v hv⟩
    have hsho : Short rs := fun r hr => by obtain ⟨v, hv, e⟩ := hmem r hr; rw [← e]; exact hsh v hv
    have erows : rowsOk cs rs = rowsOk cs (rowsAtV l time) := rowsOk_vs (vss_of hrs)
    obtain ⟨v2, hc2, is2, r2, o2, n2, s2⟩ := own_tableOf d c c2 cs rs hl hfin hsho (by omega)
    rw [hrs, erows] at o2
    rw [erows] at r2
    obtain ⟨cs', h2, j2, e2, a2, m2, b2, f2, l2⟩ := own_callAS (h := h1) (args := [.sl c 2 (cs.map Col.cells), w1]) (by simp only [pureDAs, mapO, xq, pureDA_sl]) r2 o2 n2 s2 rfl
    have q0 : h1[0]? = some (.box [.sl true 2 [], .sl true 1 []]) := f1 0 (by simp)
    have z1 : 0 < h1.length := (List.getElem?_eq_some_iff.1 q0).1
    have q2 : h2[0]? = some (.box [.sl true 2 [], .sl true 1 []]) := (f2 0 z1).trans q0
    have z2 : 0 < h2.length := (List.getElem?_eq_some_iff.1 q2).1
    obtain ⟨p0, y0, p1, y1, i0', i1', rfl, ey, rfl, g0, g1⟩ := ownR_Table a2
    have hw0 := own_cases g0
    have hw1 := own_cases g1
    refine ⟨[p0, p1], h2.set 0 (.box [p0, p1]), i0' ++ i1', ?_, OwnR_frame _ a2 (fun j hj => ?_), m2, ?_⟩
    · rw [runD_eq find12 _ _ _ (by simp)]
      rcases own_cases a1 with ⟨ka, rfl⟩ | ⟨ka, sa, na, ta, rfl⟩ <;> rcases hw0 with ⟨k, rfl⟩ | ⟨k, s, n, t, rfl⟩ <;> rcases hw1 with ⟨k1, rfl⟩ | ⟨k1, s1, n1, t1, rfl⟩ <;> simp -implicitDefEqProofs (disch := omega) only [go_sem, Nat.reduceBEq, Nat.reduceAdd, Nat.reduceSub, Nat.reduceMul, Nat.reduceLeDiff, Nat.reduceEqDiff, Nat.reduceLT, Int.reduceNeg, Int.reduceAdd, Int.reduceSub, Int.reduceMul, Int.reduceLE, Int.reduceLT, Int.reduceEq, Int.reduceToNat, reduceCtorEq, hv, e1, e2, q2, z2, List.getElem?_set_self, okN]
    · rw [List.getElem?_set_ne (by have := b2 j hj; omega)]
    · rcases hw0 with ⟨q, rfl⟩ | ⟨q, s, t, u, rfl⟩ <;> simp [scalar]
end Go.Proofs.Ytfbjbkkcilhgjaa.PE
/- The table at a time: the reference's; the core of the exact statement. -/
set_option linter.unusedVariables false
set_option linter.unusedSimpArgs false
set_option maxHeartbeats 4000000
namespace Go.Proofs.Ytfbjbkkcilhgjaa.PE
open Go.RowKit

-- find13
theorem run_tableAtS (d : Nat) (c c' : Bool) (cs : List Col) (l : List Ver) (time : Int) (hl : cs.length < 4294967296) (hs : l.length < 1099511627776) (hsh : ShortVs l) (hfn : ∀ v ∈ l, v.row.vs.length < 4294967296) :
    ∃ a b, retP (runD tab noExt (d + 8)) 13 [.sl c 2 (cs.map Col.cells), .sl c' 4 (l.map Ver.cells), .int .i64 time] = some [.agg [.sl a 2 ((if tabOk cs l time then cs else []).map Col.cells), .sl b 1 ((if tabOk cs l time then rowsAtV l time else []).map Row.cells)], .bool (tabOk cs l time)] := by
  have hv := run_versS (d + 2) c' l hs hsh
  have hr := run_rowsAtS d c' l time hs hsh hfn
  have hlen := rowsAtV_len l time
  have hmem : ∀ r ∈ rowsAtV l time, ∃ v ∈ l, v.row.vs = r.vs := by
    intro r hr
    rw [rowsAtV_eq] at hr
    obtain ⟨vs, hvs, rfl⟩ := List.mem_map.1 hr
    obtain ⟨k, _, hk⟩ := List.mem_filterMap.1 hvs
    exact rowV_mem hk
  have hsho : Short (rowsAtV l time) := fun r hr => by obtain ⟨v, hv, e⟩ := hmem r hr; rw [← e]; exact hsh v hv
  have hro := run_rowsOk (d + 2) c false cs (rowsAtV l time) (by omega) (by omega) hsho
  have hsm : 0 + cs.length < 4294967296 := by omega
  unfold tabOk
  rw [retP, runD_eq find13 _ _ _ (by simp)]
  have et : List.take cs.length (cs.map Col.cells) = cs.map Col.cells := List.take_of_length_le (by simp)
  cases hok : versOk l
  · rw [hok] at hv
    refine ⟨true, true, ?_⟩
    simp -implicitDefEqProofs (disch := omega) only [go_sem, Nat.reduceBEq, Nat.reduceAdd, Nat.reduceSub, Nat.reduceMul, Nat.reduceLeDiff, Nat.reduceEqDiff, Nat.reduceLT, Int.reduceNeg, Int.reduceAdd, Int.reduceSub, Int.reduceMul, Int.reduceLE, Int.reduceLT, Int.reduceEq, Int.reduceToNat, reduceCtorEq, hv, hr, hsm, hl]
  · rw [hok] at hv
    cases hk : rowsOk cs (rowsAtV l time)
    · rw [hk] at hro
      refine ⟨true, true, ?_⟩
      simp -implicitDefEqProofs (disch := omega) only [go_sem, Nat.reduceBEq, Nat.reduceAdd, Nat.reduceSub, Nat.reduceMul, Nat.reduceLeDiff, Nat.reduceEqDiff, Nat.reduceLT, Int.reduceNeg, Int.reduceAdd, Int.reduceSub, Int.reduceMul, Int.reduceLE, Int.reduceLT, Int.reduceEq, Int.reduceToNat, reduceCtorEq, hv, hr, hro, hsm, hl]
    · rw [hk] at hro
      refine ⟨false, false, ?_⟩
      simp -implicitDefEqProofs (disch := omega) only [go_sem, Nat.reduceBEq, Nat.reduceAdd, Nat.reduceSub, Nat.reduceMul, Nat.reduceLeDiff, Nat.reduceEqDiff, Nat.reduceLT, Int.reduceNeg, Int.reduceAdd, Int.reduceSub, Int.reduceMul, Int.reduceLE, Int.reduceLT, Int.reduceEq, Int.reduceToNat, reduceCtorEq, hv, hr, hro, hsm, hl, et]
end Go.Proofs.Ytfbjbkkcilhgjaa.PE
/- Steps of exact statements of structs. -/
set_option linter.unusedVariables false
set_option linter.unusedSimpArgs false
namespace Go.Proofs.Ytfbjbkkcilhgjaa.PE
open Go.RowKit

theorem pureDA_of {h : Heap} {fs : List Fd} {v q : V} {u : U} {ids : List Nat} (ho : OwnF h (.sub fs) v u ids) (e : pureD h 6 v = some q) : pureDA h v = some q := by
  rcases own_cases ho with ⟨c, rfl⟩ | ⟨id, st, n, clip, rfl⟩ <;> exact e
theorem pureDA_agg (h : Heap) (cs : List V) : pureDA h (.agg cs) = (mapO (pureD h 6) cs).map .agg := rfl
end Go.Proofs.Ytfbjbkkcilhgjaa.PE
/- Results that are memory of one's own, told as values. -/
set_option linter.unusedSimpArgs false
set_option linter.unusedVariables false
namespace Go.Proofs.Ytfbjbkkcilhgjaa.PE
open Go.RowKit

theorem retP_own {run : Run} {f : Nat} {args : List V} {v : V} {hc : Heap} {fs : List Fd} {u : U} {ids : List Nat} (hr : run f args [] = some ([v], hc)) (ho : OwnF hc (.sub fs) v u ids) (hd : dep (.sub fs) ≤ 6) : ∃ q, retP run f args = some [q] ∧ PurF (.sub fs) q u := by
  obtain ⟨q, e1, e2⟩ := OwnF_pure (.sub fs) 6 hd ho
  have e3 := pureDA_of ho e1
  refine ⟨q, ?_, e2⟩
  unfold retP
  rw [hr, PureR_some]
  have hA : pureAs hc [v] = none ∨ pureAs hc [v] = some [q] := by
    simp only [OwnF] at ho
    obtain ⟨xs, rfl, ⟨c, rfl, rfl, _⟩ | ⟨id, st, clip, cont, r, rfl, e, _, _⟩⟩ := ho
    · right
      simp only [pureD, Option.some.injEq] at e1
      subst e1
      rfl
    · simp only [pureAs, pureA, pureC, e, blkOf]
      cases hdeep : fs.any Fd.deep
      · right
        simp only [pureD, e, blkOf, hdeep, Bool.false_eq_true, if_false, if_true, Option.some.injEq] at e1
        subst e1
        simp
      · left
        simp
  rcases hA with hA | hA
  · rw [hA, OrD_none]
    simp only [pureDAs, mapO, e3]
  · rw [hA, OrD_some]
theorem own_pureC {hc : Heap} {fs : List Fd} {v q : V} {u : U} {ids : List Nat} (ho : OwnF hc (.sub fs) v u ids) (e1 : pureD hc 6 v = some q) : pureC hc v = none ∨ pureC hc v = some q := by
  simp only [OwnF] at ho
  obtain ⟨xs, rfl, ⟨c, rfl, rfl, _⟩ | ⟨id, st, clip, cont, r, rfl, e, _, _⟩⟩ := ho
  · right
    simp only [pureD, Option.some.injEq] at e1
    subst e1
    rfl
  · simp only [pureC, e, blkOf]
    cases hdeep : fs.any Fd.deep
    · right
      simp only [pureD, e, blkOf, hdeep, Bool.false_eq_true, if_false, if_true, Option.some.injEq] at e1
      subst e1
      simp
    · left
      simp
theorem retP_ownA2 {run : Run} {f : Nat} {args : List V} {v0 v1 : V} {hc : Heap} {f0 f1 : List Fd} {u0 u1 : U} {i0 i1 : List Nat} {n : Bool} (hr : run f args [] = some ([.agg [v0, v1], .bool n], hc)) (o0 : OwnF hc (.sub f0) v0 u0 i0) (o1 : OwnF hc (.sub f1) v1 u1 i1) (d0 : dep (.sub f0) ≤ 6) (d1 : dep (.sub f1) ≤ 6) :
    ∃ q0 q1, retP run f args = some [.agg [q0, q1], .bool n] ∧ PurF (.sub f0) q0 u0 ∧ PurF (.sub f1) q1 u1 := by
  obtain ⟨q0, e0, g0⟩ := OwnF_pure (.sub f0) 6 d0 o0
  obtain ⟨q1, e1, g1⟩ := OwnF_pure (.sub f1) 6 d1 o1
  refine ⟨q0, q1, ?_, g0, g1⟩
  unfold retP
  rw [hr, PureR_some]
  have hA : pureAs hc [.agg [v0, v1], .bool n] = none ∨ pureAs hc [.agg [v0, v1], .bool n] = some [.agg [q0, q1], .bool n] := by
    have pb : pureC hc (.bool n) = some (.bool n) := rfl
    rcases own_pureC o0 e0 with a | a <;> rcases own_pureC o1 e1 with b | b <;> simp [pureAs, pureA, pures, a, b, pb]
  rcases hA with hA | hA
  · rw [hA, OrD_none]
    simp only [pureDAs, mapO, pureDA_agg, pureDA_bool, e0, e1, Option.map_some]
  · rw [hA, OrD_some]
end Go.Proofs.Ytfbjbkkcilhgjaa.PE
/- Values that are drawn. -/
set_option linter.unusedSimpArgs false
set_option linter.unusedVariables false
set_option maxHeartbeats 4000000
namespace Go.Proofs.Ytfbjbkkcilhgjaa.PE
open Go.RowKit

/-- A drawn value's text is short. -/
def GV (v : Val) : Prop := v.s.size ≤ 20

-- find197
def ValPost (p q : Int) (s s' : ByteArray) (p' : Int) : Prop := p ≤ p' ∧ p' ≤ p + q ∧ s'.size ≤ s.size + q
-- find149
end Go.Proofs.Ytfbjbkkcilhgjaa.PE
/- Values, columns and rows that are drawn. -/
set_option linter.unusedSimpArgs false
set_option linter.unusedVariables false
set_option maxHeartbeats 4000000
namespace Go.Proofs.Ytfbjbkkcilhgjaa.PE
open Go.RowKit

end Go.Proofs.Ytfbjbkkcilhgjaa.PE
/- Columns and rows that are drawn. -/
set_option linter.unusedSimpArgs false
set_option linter.unusedVariables false
set_option maxHeartbeats 4000000
namespace Go.Proofs.Ytfbjbkkcilhgjaa.PE
open Go.RowKit

def IsCol (x : List V) : Prop := ∃ k e, x = [.int .i64 k, .bool e]
def AllP (P : List V → Prop) (l : List (List V)) : Prop := ∀ x ∈ l, P x
theorem AllP.nil {P : List V → Prop} : AllP P [] := fun _ h => by cases h
theorem AllP.snoc {P : List V → Prop} {l : List (List V)} {x : List V} (h : AllP P l) (hx : P x) : AllP P (l ++ [x]) := fun y hy => by
  rcases List.mem_append.1 hy with h1 | h1
  · exact h y h1
  · rw [List.mem_singleton.1 h1]; exact hx
theorem allP_map {α : Type} {P : List V → Prop} (f : α → List V) (hf : ∀ x, P x → ∃ a, x = f a) : ∀ {l : List (List V)}, AllP P l → ∃ zs : List α, l = zs.map f
  | [], _ => ⟨[], rfl⟩
  | x :: r, h => by
    obtain ⟨a, ha⟩ := hf x (h x List.mem_cons_self)
    obtain ⟨zs, has⟩ := allP_map f hf (fun y hy => h y (List.mem_cons_of_mem _ hy))
    exact ⟨a :: zs, by rw [ha, has]; rfl⟩
theorem cols_of {l : List (List V)} (h : AllP IsCol l) : ∃ cs : List Col, l = cs.map Col.cells := allP_map Col.cells (fun x ⟨k, e, hx⟩ => ⟨⟨k, e⟩, hx⟩) h

def ColsPost (j : Nat) (cont : List (List V)) (p : Int) (cont' : List (List V)) (p' : Int) : Prop := AllP IsCol cont' ∧ cont'.length = cont.length + j ∧ p ≤ p' ∧ p' ≤ p + 2 * j
-- find58
theorem loop_columns {d : Nat} {hp t : Heap} {c : Bool} {bs : List UInt8} {n : Int} (hb : bs.length ≤ 2000) (hhp : plainH hp = true) (ht : plainH t = true) : ∀ (j K : Nat) {p k : Int} {st len : Nat} {cont : List (List V)} {Y : Out},
    LoopS (runD tab noExt (d + 1)) (drawI (runD tab noExt (d + 1))) [0, 1, 5, 6] [0, 1, 5] L58x0 (hp.length + (t.length + 3)) K [(0, .ptr hp.length 0 0 0), (1, .int .i64 n), (5, .ref (hp.length + (t.length + 2)) st 0 len false), (6, .int .i64 k)]
      (hp ++ .box [.sl c 1 (cellsOfBytes bs), .int .i64 (p)] :: (t ++ [.rows 0 2 [], .rows st 2 cont])) = Y →
    k = j → j ≤ K → len = cont.length → cont.length + j ≤ 100 → AllP IsCol cont → 0 ≤ p → p + 2 * j ≤ 1099511000000 → ∃ cont' st' p', Y = some (.exit 0, [(0, .ptr hp.length 0 0 0), (1, .int .i64 n), (5, .ref (hp.length + (t.length + 2)) st' 0 cont'.length false)],
      hp ++ .box [.sl c 1 (cellsOfBytes bs), .int .i64 (p')] :: (t ++ [.rows 0 2 [], .rows st' 2 cont'])) ∧ ColsPost j cont p cont' p' := by
  have hh : ∀ n, t.all (hiB n) = true := fun n => plainH_hi ht n
  have hhq : ∀ n, hp.all (hiB n) = true := fun n => plainH_hi hhp n
  have hidx : ∀ m : Int, 0 ≤ m → m < 4 → ∃ x : Int, ([[.int .i64 1], [.int .i64 1], [.int .i64 2], [.int .i64 3]] : List (List V))[m.toNat]? = some [.int .i64 x] := by
    intro m h0 h1
    rcases (by omega : m = 0 ∨ m = 1 ∨ m = 2 ∨ m = 3) with rfl | rfl | rfl | rfl <;> exact ⟨_, rfl⟩
  intro j
  induction j with
  | zero =>
    intro K p k st len cont Y hL hk hK hlen hs hc hp0 hq
    subst hL hk hlen
    rw [LoopS_eq]
    simp -implicitDefEqProofs only [go_sem, Nat.reduceBEq, Nat.reduceAdd, Nat.reduceSub, Nat.reduceMul, Nat.reduceLeDiff, Nat.reduceEqDiff, Nat.reduceLT, Int.reduceNeg, Int.reduceAdd, Int.reduceSub, Int.reduceMul, Int.reduceLE, Int.reduceLT, Int.reduceEq, Int.reduceToNat, reduceCtorEq, evL58x0, B58x0, hh, hhq, List.all_append, Int.lt_irrefl, Int.natCast_zero]
    exact ⟨cont, st, p, rfl, hc, rfl, by omega, by omega⟩
  | succ j ih =>
    intro K p k st len cont Y hL hk hK hlen hs hc hp0 hq
    obtain ⟨K, rfl⟩ : ∃ K', K = K' + 1 := ⟨K - 1, by omega⟩
    subst hL hlen
    have hk0 : 0 < k := by omega
    have h1 : cont.length + 1 < 4294967296 := by omega
    rw [LoopS_eq]
    simp -implicitDefEqProofs (disch := omega) only [go_sem, Nat.reduceBEq, Nat.reduceAdd, Nat.reduceSub, Nat.reduceMul, Nat.reduceLeDiff, Nat.reduceEqDiff, Nat.reduceLT, Int.reduceNeg, Int.reduceAdd, Int.reduceSub, Int.reduceMul, Int.reduceLE, Int.reduceLT, Int.reduceEq, Int.reduceToNat, reduceCtorEq, evL58x0, B58x0, evC_draw, evD58x0, E58x0, hh, hhq, hk0, List.all_append]
    repeat' (first | ((conv in (callS _ _ 57 _ false) => skip); generalize hx : callS (runD tab noExt _) (_ ++ _ :: _) 57 [_, .int .i64 4] false = X; obtain ⟨m, rfl, hm1, hm2⟩ := ex_pick hx (by omega) (by omega) hb hhp (by simp only [ht, plainH_nil, plainH_cons, plainH_append, plainB, List.all_cons, List.all_nil, Bool.and_self, Bool.and_true]) ; skip;  obtain ⟨x, hx1⟩ := hidx m hm1 (by omega); simp -implicitDefEqProofs (disch := omega) only [go_sem, Nat.reduceBEq, Nat.reduceAdd, Nat.reduceSub, Nat.reduceMul, Nat.reduceLeDiff, Nat.reduceEqDiff, Nat.reduceLT, Int.reduceNeg, Int.reduceAdd, Int.reduceSub, Int.reduceMul, Int.reduceLE, Int.reduceLT, Int.reduceEq, Int.reduceToNat, reduceCtorEq, IntWalk.i64_in, hh, hhq, List.all_append, *]) | ((conv in (callS _ _ 57 _ false) => skip); generalize hx : callS (runD tab noExt _) (_ ++ _ :: _) 57 _ false = X; obtain ⟨m, rfl, hm1, hm2⟩ := ex_pick hx (by omega) (by omega) hb hhp (by simp only [ht, plainH_nil, plainH_cons, plainH_append, plainB, List.all_cons, List.all_nil, Bool.and_self, Bool.and_true]) ; skip;  simp -implicitDefEqProofs (disch := omega) only [go_sem, Nat.reduceBEq, Nat.reduceAdd, Nat.reduceSub, Nat.reduceMul, Nat.reduceLeDiff, Nat.reduceEqDiff, Nat.reduceLT, Int.reduceNeg, Int.reduceAdd, Int.reduceSub, Int.reduceMul, Int.reduceLE, Int.reduceLT, Int.reduceEq, Int.reduceToNat, reduceCtorEq, IntWalk.i64_in, hh, hhq, List.all_append, *]) | ((first | rw [GuardI_ndec] | rw [CondC_ndec] | rw [GuardQ_ndec] | rw [GuardV_ndec] | rw [GuardI_dec] | rw [CondC_dec] | rw [GuardQ_dec] | rw [GuardV_dec] | rw [GuardI_nby] | rw [CondC_nby] | rw [GuardQ_nby] | rw [GuardV_nby] | rw [GuardQ_by] | rw [GuardI_by] | rw [GuardV_by] | rw [CondC_by]) <;> split <;> simp -implicitDefEqProofs (disch := omega) only [go_sem, Nat.reduceBEq, Nat.reduceAdd, Nat.reduceSub, Nat.reduceMul, Nat.reduceLeDiff, Nat.reduceEqDiff, Nat.reduceLT, Int.reduceNeg, Int.reduceAdd, Int.reduceSub, Int.reduceMul, Int.reduceLE, Int.reduceLT, Int.reduceEq, Int.reduceToNat, reduceCtorEq, IntWalk.i64_in, hh, hhq, List.all_append, *]))
    generalize hL : LoopS _ _ _ _ _ _ _ _ _ = Y
    obtain ⟨cont', st', p', rfl, h2, h3, h4, h5⟩ := ih K hL (by omega) (by omega) (by simp) (by simp; omega) (hc.snoc ⟨_, _, rfl⟩) (by omega) (by omega)
    exact ⟨cont', st', p', rfl, h2, by simp at h3; omega, by omega, by omega⟩

theorem ex_columns {d : Nat} {hp t : Heap} {c : Bool} {bs : List UInt8} {p n : Int} {X : Option (V × Heap)} (hx : callS (runD tab noExt (d + 3)) (hp ++ .box [.sl c 1 (cellsOfBytes bs), .int .i64 (p)] :: t) 58 [.ptr hp.length 0 0 0, .int .i64 n] false = X)
    (hp0 : 0 ≤ p) (hq : p ≤ 1099510000000) (hb : bs.length ≤ 2000) (hhp : plainH hp = true) (ht : plainH t = true) :
    ∃ (cs : List Col) (p' : Int), X = some (.sl false 2 (cs.map Col.cells), hp ++ .box [.sl c 1 (cellsOfBytes bs), .int .i64 (p')] :: t) ∧ p ≤ p' ∧ p' ≤ p + 10 ∧ 1 ≤ cs.length ∧ cs.length ≤ 6 := by
  subst hx
  have hh : ∀ n, t.all (hiB n) = true := fun n => plainH_hi ht n
  have hhq : ∀ n, hp.all (hiB n) = true := fun n => plainH_hi hhp n
  rw [callS_eq, runD_eq find58 _ _ _ (by simp)]
  simp -implicitDefEqProofs only [go_sem, Nat.reduceBEq, Nat.reduceAdd, Nat.reduceSub, Nat.reduceMul, Nat.reduceLeDiff, Nat.reduceEqDiff, Nat.reduceLT, Int.reduceNeg, Int.reduceAdd, Int.reduceSub, Int.reduceMul, Int.reduceLE, Int.reduceLT, Int.reduceEq, Int.reduceToNat, reduceCtorEq, hh, hhq, List.all_append]
  generalize hx : callS (runD tab noExt _) _ 57 _ _ = X
  obtain ⟨m, rfl, hm1, hm2⟩ := ex_pick hx (by omega) (by omega) hb hhp (by simp only [ht, plainH_nil, plainH_cons, plainH_append, plainB, List.all_cons, List.all_nil, Bool.and_self, Bool.and_true])
  clear hx
  simp -implicitDefEqProofs (disch := omega) only [go_sem, Nat.reduceBEq, Nat.reduceAdd, Nat.reduceSub, Nat.reduceMul, Nat.reduceLeDiff, Nat.reduceEqDiff, Nat.reduceLT, Int.reduceNeg, Int.reduceAdd, Int.reduceSub, Int.reduceMul, Int.reduceLE, Int.reduceLT, Int.reduceEq, Int.reduceToNat, reduceCtorEq, IntWalk.i64_in, hh, hhq, List.all_append]
  generalize hx : LoopS _ _ _ _ _ _ _ _ _ = Y
  obtain ⟨cont, st, p1, rfl, h1, h2, h3, h4⟩ := loop_columns hb hhp ht (1 + m).toNat _ hx (by omega) (by omega) rfl (by simp; omega) AllP.nil (by omega) (by omega)
  clear hx
  simp only [List.length_nil, Nat.zero_add] at h2
  have h2a : 1 ≤ cont.length := by omega
  have h2b : cont.length ≤ 3 := by omega
  have h4' : p1 ≤ p + 7 := by omega
  clear h2 h4
  have h5 : cont.length + 3 < 4294967296 := by omega
  simp -implicitDefEqProofs (disch := omega) only [go_sem, Nat.reduceBEq, Nat.reduceAdd, Nat.reduceSub, Nat.reduceMul, Nat.reduceLeDiff, Nat.reduceEqDiff, Nat.reduceLT, Int.reduceNeg, Int.reduceAdd, Int.reduceSub, Int.reduceMul, Int.reduceLE, Int.reduceLT, Int.reduceEq, Int.reduceToNat, reduceCtorEq, hh, hhq, List.all_append]
  repeat' (first | ((conv in (callS _ _ 119 _ false) => skip); generalize hx : callS (runD tab noExt _) (_ ++ _ :: _) 119 _ false = X; obtain ⟨b, p', rfl, hm1, hm2, hm3⟩ := ex_odd hx (by omega) (by omega) hb hhp (by simp only [ht, plainH_nil, plainH_cons, plainH_append, plainB, List.all_cons, List.all_nil, Bool.and_self, Bool.and_true]) ; skip; clear hx; simp -implicitDefEqProofs (disch := omega) only [go_sem, Nat.reduceBEq, Nat.reduceAdd, Nat.reduceSub, Nat.reduceMul, Nat.reduceLeDiff, Nat.reduceEqDiff, Nat.reduceLT, Int.reduceNeg, Int.reduceAdd, Int.reduceSub, Int.reduceMul, Int.reduceLE, Int.reduceLT, Int.reduceEq, Int.reduceToNat, reduceCtorEq, IntWalk.i64_in, hh, hhq, List.all_append, List.take_length, *]) | ((conv in (callS _ _ 57 _ false) => skip); generalize hx : callS (runD tab noExt _) (_ ++ _ :: _) 57 _ false = X; obtain ⟨m, rfl, hm1, hm2⟩ := ex_pick hx (by omega) (by omega) hb hhp (by simp only [ht, plainH_nil, plainH_cons, plainH_append, plainB, List.all_cons, List.all_nil, Bool.and_self, Bool.and_true]) ; skip; clear hx; simp -implicitDefEqProofs (disch := omega) only [go_sem, Nat.reduceBEq, Nat.reduceAdd, Nat.reduceSub, Nat.reduceMul, Nat.reduceLeDiff, Nat.reduceEqDiff, Nat.reduceLT, Int.reduceNeg, Int.reduceAdd, Int.reduceSub, Int.reduceMul, Int.reduceLE, Int.reduceLT, Int.reduceEq, Int.reduceToNat, reduceCtorEq, IntWalk.i64_in, hh, hhq, List.all_append, List.take_length, *]) | ((first | rw [GuardI_ndec] | rw [CondC_ndec] | rw [GuardQ_ndec] | rw [GuardV_ndec] | rw [GuardI_dec] | rw [CondC_dec] | rw [GuardQ_dec] | rw [GuardV_dec] | rw [GuardI_nby] | rw [CondC_nby] | rw [GuardQ_nby] | rw [GuardV_nby] | rw [GuardQ_by] | rw [GuardI_by] | rw [GuardV_by] | rw [CondC_by]) <;> split <;> simp -implicitDefEqProofs (disch := omega) only [go_sem, Nat.reduceBEq, Nat.reduceAdd, Nat.reduceSub, Nat.reduceMul, Nat.reduceLeDiff, Nat.reduceEqDiff, Nat.reduceLT, Int.reduceNeg, Int.reduceAdd, Int.reduceSub, Int.reduceMul, Int.reduceLE, Int.reduceLT, Int.reduceEq, Int.reduceToNat, reduceCtorEq, IntWalk.i64_in, hh, hhq, List.all_append, List.take_length, *]))
  · have h6 : AllP IsCol (cont ++ [[.int .i64 (m - 1), .bool false], [.int .i64 1, .bool false], [.int .i64 1, .bool false]]) := by
      rw [show ∀ (a b c : List V), cont ++ [a, b, c] = ((cont ++ [a]) ++ [b]) ++ [c] from fun a b c => by simp]
      exact ((h1.snoc ⟨_, _, rfl⟩).snoc ⟨_, _, rfl⟩).snoc ⟨_, _, rfl⟩
    obtain ⟨cs, hcs⟩ := cols_of h6
    have hl := congrArg List.length hcs
    simp at hl
    exact ⟨cs, _, by rw [hcs], by omega, by omega, by omega, by omega⟩
  · obtain ⟨cs, hcs⟩ := cols_of h1
    have hl := congrArg List.length hcs
    simp at hl
    exact ⟨cs, _, by rw [hcs], by omega, by omega, by omega, by omega⟩
end Go.Proofs.Ytfbjbkkcilhgjaa.PE
/- The law of rows at a time. -/
set_option linter.unusedSimpArgs false
set_option linter.unusedVariables false
set_option maxHeartbeats 4000000
namespace Go.Proofs.Ytfbjbkkcilhgjaa.PE
open Go.RowKit

/-- Memory of one's own, told as a value. -/
theorem run_rowsAtI (d : Nat) (c : Bool) (l : List Ver) (time : Int) (hs : l.length < 1099511627776) (hsh : ShortVs l) (hfn : ∀ v ∈ l, v.row.vs.length < 4294967296) : ∃ (cl : Bool) (rs : List Row), retP (runD tab noExt (d + 9)) 16 [.sl c 4 (l.map Ver.cells), .int .i64 time] = some [.sl cl 1 (rs.map Row.cells)] ∧ rs.map Row.vs = (rowsAtV l time).map Row.vs := by
  obtain ⟨v, hc, ids, r, o, _⟩ := own_rowsAt d c l time hs hsh hfn
  obtain ⟨q, e, g⟩ := retP_own r o (by decide)
  obtain ⟨cl, rs, rfl, h⟩ := rows_each g
  exact ⟨cl, rs, e, vss_of h⟩
def cnt1 (l : List Ver) (time : Int) (n : Int) (k : Int) : Int := if (rowAt l k time).isSome then n + 1 else n
def turn1 (t : Int) (b : Bool) (v : Ver) : Bool := b || (decide (v.born = t + 1) || decide (v.died = t + 1))
end Go.Proofs.Ytfbjbkkcilhgjaa.PE
/- The law of the table at a time. -/
set_option linter.unusedSimpArgs false
set_option linter.unusedVariables false
set_option maxHeartbeats 4000000
set_option maxRecDepth 20000
namespace Go.Proofs.Ytfbjbkkcilhgjaa.PE
open Go.RowKit

-- find56
theorem ex_one {d : Nat} {hp t : Heap} {c : Bool} {bs : List UInt8} {p : Int} {X : Option (V × Heap)} (hx : callS (runD tab noExt (d + 2)) (hp ++ .box [.sl c 1 (cellsOfBytes bs), .int .i64 (p)] :: t) 56 [.ptr hp.length 0 0 0] false = X)
    (hp0 : 0 ≤ p) (hq : p ≤ 1099511000000) (hb : bs.length ≤ 2000) (hhp : plainH hp = true) (ht : plainH t = true) :
    ∃ (b : Bool) (p' : Int), X = some (.sl true 2 [[.int .i64 1, .bool b]], hp ++ .box [.sl c 1 (cellsOfBytes bs), .int .i64 (p')] :: t) ∧ p ≤ p' ∧ p' ≤ p + 1 := by
  subst hx
  have hh : ∀ n, t.all (hiB n) = true := fun n => plainH_hi ht n
  have hhq : ∀ n, hp.all (hiB n) = true := fun n => plainH_hi hhp n
  rw [callS_eq, runD_eq find56 _ _ _ (by simp)]
  simp -implicitDefEqProofs only [go_sem, Nat.reduceBEq, Nat.reduceAdd, Nat.reduceSub, Nat.reduceMul, Nat.reduceLeDiff, Nat.reduceEqDiff, Nat.reduceLT, Int.reduceNeg, Int.reduceAdd, Int.reduceSub, Int.reduceMul, Int.reduceLE, Int.reduceLT, Int.reduceEq, Int.reduceToNat, reduceCtorEq]
  generalize hx : callS (runD tab noExt _) _ 57 _ _ = X
  obtain ⟨m, rfl, hm1, hm2⟩ := ex_pick hx (by omega) (by omega) hb hhp ht
  clear hx
  simp -implicitDefEqProofs (disch := omega) only [go_sem, Nat.reduceBEq, Nat.reduceAdd, Nat.reduceSub, Nat.reduceMul, Nat.reduceLeDiff, Nat.reduceEqDiff, Nat.reduceLT, Int.reduceNeg, Int.reduceAdd, Int.reduceSub, Int.reduceMul, Int.reduceLE, Int.reduceLT, Int.reduceEq, Int.reduceToNat, reduceCtorEq, IntWalk.i64_in, hh, hhq, List.all_append, elemsOf, elemOf, frzs, refs, refC, refsV, List.flatMap_cons, List.flatMap_nil]
  exact ⟨_, _, rfl, by omega, by omega⟩
-- find11
theorem run_drawTableAt (d : Nat) (c : Bool) (bs : List UInt8) : ∃ (cc : Bool) (cs : List Col) (l : List Ver) (time : Int), retP (runD tab noExt (d + 10)) 11 [.sl c 1 (cellsOfBytes bs)] = some [.sl cc 2 (cs.map Col.cells), .sl false 4 (l.map Ver.cells), .int .i64 time] ∧ GVs 31 l ∧ cs.length ≤ 6 ∧ 0 ≤ time ∧ time ≤ 40 := by
  rw [retP, runD_eq find11 _ _ _ (by simp)]
  simp -implicitDefEqProofs only [go_sem, Nat.reduceBEq, Nat.reduceAdd, Nat.reduceSub, Nat.reduceMul, Nat.reduceLeDiff, Nat.reduceEqDiff, Nat.reduceLT, Int.reduceNeg, Int.reduceAdd, Int.reduceSub, Int.reduceMul, Int.reduceLE, Int.reduceLT, Int.reduceEq, Int.reduceToNat, reduceCtorEq]
  generalize hx : callS (runD tab noExt _) _ 55 _ true = X
  obtain ⟨c', bs', rfl, hb⟩ := ex_open hx rfl
  clear hx
  simp -implicitDefEqProofs only [go_sem, Nat.reduceBEq, Nat.reduceAdd, Nat.reduceSub, Nat.reduceMul, Nat.reduceLeDiff, Nat.reduceEqDiff, Nat.reduceLT, Int.reduceNeg, Int.reduceAdd, Int.reduceSub, Int.reduceMul, Int.reduceLE, Int.reduceLT, Int.reduceEq, Int.reduceToNat, reduceCtorEq]
  generalize hx : callS (runD tab noExt _) _ 56 _ false = X
  obtain ⟨b, p1, rfl, h1, h2⟩ := ex_one (hp := []) (t := []) hx (by omega) (by omega) hb rfl rfl
  clear hx
  simp -implicitDefEqProofs only [go_sem, Nat.reduceBEq, Nat.reduceAdd, Nat.reduceSub, Nat.reduceMul, Nat.reduceLeDiff, Nat.reduceEqDiff, Nat.reduceLT, Int.reduceNeg, Int.reduceAdd, Int.reduceSub, Int.reduceMul, Int.reduceLE, Int.reduceLT, Int.reduceEq, Int.reduceToNat, reduceCtorEq]
  generalize hx : callS (runD tab noExt _) _ 57 _ false = X
  obtain ⟨m, rfl, h3, h4⟩ := ex_pick (hp := []) (t := []) hx (by omega) (by omega) hb rfl rfl
  clear hx
  by_cases hm : m = 0
  · simp -implicitDefEqProofs (disch := omega) only [go_sem, Nat.reduceBEq, Nat.reduceAdd, Nat.reduceSub, Nat.reduceMul, Nat.reduceLeDiff, Nat.reduceEqDiff, Nat.reduceLT, Int.reduceNeg, Int.reduceAdd, Int.reduceSub, Int.reduceMul, Int.reduceLE, Int.reduceLT, Int.reduceEq, Int.reduceToNat, reduceCtorEq, IntWalk.i64_in, hm]
    generalize hx : callS (runD tab noExt _) _ 58 _ false = X
    obtain ⟨cs, p2, rfl, h5, h6, h7, h8⟩ := ex_columns (hp := []) (t := []) hx (by omega) (by omega) hb rfl rfl
    clear hx
    simp -implicitDefEqProofs (disch := omega) only [go_sem, Nat.reduceBEq, Nat.reduceAdd, Nat.reduceSub, Nat.reduceMul, Nat.reduceLeDiff, Nat.reduceEqDiff, Nat.reduceLT, Int.reduceNeg, Int.reduceAdd, Int.reduceSub, Int.reduceMul, Int.reduceLE, Int.reduceLT, Int.reduceEq, Int.reduceToNat, reduceCtorEq]
    generalize hx : callS (runD tab noExt _) _ 59 _ false = X
    obtain ⟨l, time, p', rfl, g1, g2, g3, g4, g5⟩ := ex_versions (hp := []) (t := []) hx (by omega) (by omega) hb rfl rfl
    clear hx
    simp -implicitDefEqProofs (disch := omega) only [go_sem, Nat.reduceBEq, Nat.reduceAdd, Nat.reduceSub, Nat.reduceMul, Nat.reduceLeDiff, Nat.reduceEqDiff, Nat.reduceLT, Int.reduceNeg, Int.reduceAdd, Int.reduceSub, Int.reduceMul, Int.reduceLE, Int.reduceLT, Int.reduceEq, Int.reduceToNat, reduceCtorEq, IntWalk.i64_in]
    generalize hx : callS (runD tab noExt _) _ 57 _ false = X
    obtain ⟨m2, rfl, k1, k2⟩ := ex_pick (hp := []) (t := []) hx (by omega) (by omega) hb rfl rfl
    clear hx
    simp -implicitDefEqProofs only [go_sem, Nat.reduceBEq, Nat.reduceAdd, Nat.reduceSub, Nat.reduceMul, Nat.reduceLeDiff, Nat.reduceEqDiff, Nat.reduceLT, Int.reduceNeg, Int.reduceAdd, Int.reduceSub, Int.reduceMul, Int.reduceLE, Int.reduceLT, Int.reduceEq, Int.reduceToNat, reduceCtorEq]
    exact ⟨_, cs, l, m2, rfl, g3, h8, k1, by omega⟩
  · have hm' := (eq_false hm : (m = 0) = False)
    simp -implicitDefEqProofs (disch := omega) only [go_sem, Nat.reduceBEq, Nat.reduceAdd, Nat.reduceSub, Nat.reduceMul, Nat.reduceLeDiff, Nat.reduceEqDiff, Nat.reduceLT, Int.reduceNeg, Int.reduceAdd, Int.reduceSub, Int.reduceMul, Int.reduceLE, Int.reduceLT, Int.reduceEq, Int.reduceToNat, reduceCtorEq, IntWalk.i64_in, hm']
    generalize hx : callS (runD tab noExt _) _ 59 _ false = X
    obtain ⟨l, time, p', rfl, g1, g2, g3, g4, g5⟩ := ex_versions (hp := []) (t := []) hx (by omega) (by omega) hb rfl rfl
    clear hx
    simp -implicitDefEqProofs (disch := omega) only [go_sem, Nat.reduceBEq, Nat.reduceAdd, Nat.reduceSub, Nat.reduceMul, Nat.reduceLeDiff, Nat.reduceEqDiff, Nat.reduceLT, Int.reduceNeg, Int.reduceAdd, Int.reduceSub, Int.reduceMul, Int.reduceLE, Int.reduceLT, Int.reduceEq, Int.reduceToNat, reduceCtorEq, IntWalk.i64_in]
    generalize hx : callS (runD tab noExt _) _ 57 _ false = X
    obtain ⟨m2, rfl, k1, k2⟩ := ex_pick (hp := []) (t := []) hx (by omega) (by omega) hb rfl rfl
    clear hx
    simp -implicitDefEqProofs only [go_sem, Nat.reduceBEq, Nat.reduceAdd, Nat.reduceSub, Nat.reduceMul, Nat.reduceLeDiff, Nat.reduceEqDiff, Nat.reduceLT, Int.reduceNeg, Int.reduceAdd, Int.reduceSub, Int.reduceMul, Int.reduceLE, Int.reduceLT, Int.reduceEq, Int.reduceToNat, reduceCtorEq]
    exact ⟨_, [⟨1, b⟩], l, m2, rfl, g3, by simp, k1, by omega⟩
/-- A list of one table. -/
def oneT (c0 : Bool) (cs : List Col) (r0 : Bool) (a : List Row) : V := .sl true 2 [[.sl c0 2 (cs.map Col.cells), .sl r0 1 (a.map Row.cells)]]
theorem loop_tcols (d : Nat) (c0 c1 r0 r1 : Bool) (cs : List Col) (a b : List Row) (hs : cs.length < 1099511627776) (K : Nat) (hK : cs.length ≤ K) : LoopS (runD tab noExt d) (drawI (runD tab noExt d)) [0, 1, 5, 6] [0, 1, 4, 5] L64x1 0 K [(0, oneT c0 cs r0 a), (1, oneT c1 cs r1 b), (5, .int .i64 0), (6, .int .i64 0)] [] = some (.exit 2, [(0, oneT c0 cs r0 a), (1, oneT c1 cs r1 b), (4, .undef), (5, .int .i64 0)], []) := by
  obtain ⟨_, _, e⟩ := LoopS_inv (run := runD tab noExt d) (draw := drawI (runD tab noExt d)) (live := [0, 1, 5, 6]) (out := [0, 1, 4, 5]) (c := L64x1) (n0 := 0) cs.length
      (fun i (_ : Unit) => True)
      (fun i _ => [(0, oneT c0 cs r0 a), (1, oneT c1 cs r1 b), (5, .int .i64 0), (6, .int .i64 (i : Nat))]) (fun _ => []) (fun _ => some (.exit 2, [(0, oneT c0 cs r0 a), (1, oneT c1 cs r1 b), (4, .undef), (5, .int .i64 0)], []))
      (fun b K hb => by
        rw [LoopS_eq]
        simp -implicitDefEqProofs (disch := omega) only [go_sem, Nat.reduceBEq, Nat.reduceAdd, Nat.reduceSub, Nat.reduceMul, Nat.reduceLeDiff, Nat.reduceEqDiff, Nat.reduceLT, Int.reduceNeg, Int.reduceAdd, Int.reduceSub, Int.reduceMul, Int.reduceLE, Int.reduceLT, Int.reduceEq, Int.reduceToNat, reduceCtorEq, evL64x1, B64x1, oneT, Int.lt_irrefl]) (fun i b K hi _ => by
        refine ⟨(), trivial, ?_⟩
        have hx := List.getElem?_eq_getElem hi
        generalize cs[i] = x at hx
        have hi' : (i : Int) < cs.length := by omega
        rw [LoopS_eq]
        simp -implicitDefEqProofs (disch := omega) only [go_sem, Nat.reduceBEq, Nat.reduceAdd, Nat.reduceSub, Nat.reduceMul, Nat.reduceLeDiff, Nat.reduceEqDiff, Nat.reduceLT, Int.reduceNeg, Int.reduceAdd, Int.reduceSub, Int.reduceMul, Int.reduceLE, Int.reduceLT, Int.reduceEq, Int.reduceToNat, reduceCtorEq, evL64x1, B64x1, evC_draw, evD64x1, E64x1, oneT, hx, hi', Col.cells, IntWalk.i64_in]) K hK () trivial
  simp only [Int.natCast_zero] at e
  exact e
-- find64
theorem run_sameTables1 (d : Nat) (c0 c1 r0 r1 : Bool) (cs : List Col) (a b : List Row) (hs : cs.length < 1099511627776) (ha : a.length < 1099511627776) (hsa : ∀ r ∈ a, r.vs.length < 1099511627776) (hv : vss a = vss b) : retP (runD tab noExt (d + 3)) 64 [oneT c0 cs r0 a, oneT c1 cs r1 b] = some [.bool true] := by
  have hr := run_sameRows d r0 r1 a b ha hsa
  rw [decide_eq_true hv] at hr
  have hl := loop_tcols (d + 2) c0 c1 r0 r1 cs a b hs 1099511627775 (by omega)
  simp only [oneT] at hl ⊢
  rw [retP, runD_eq find64 _ _ _ (by simp)]
  simp -implicitDefEqProofs (disch := omega) only [go_sem, Nat.reduceBEq, Nat.reduceAdd, Nat.reduceSub, Nat.reduceMul, Nat.reduceLeDiff, Nat.reduceEqDiff, Nat.reduceLT, Int.reduceNeg, Int.reduceAdd, Int.reduceSub, Int.reduceMul, Int.reduceLE, Int.reduceLT, Int.reduceEq, Int.reduceToNat, reduceCtorEq]
  rw [LoopS_eq]
  simp -implicitDefEqProofs (disch := omega) only [go_sem, Nat.reduceBEq, Nat.reduceAdd, Nat.reduceSub, Nat.reduceMul, Nat.reduceLeDiff, Nat.reduceEqDiff, Nat.reduceLT, Int.reduceNeg, Int.reduceAdd, Int.reduceSub, Int.reduceMul, Int.reduceLE, Int.reduceLT, Int.reduceEq, Int.reduceToNat, reduceCtorEq, evL64x0, B64x0, evC_draw, evD64x0, E64x0, hr, IntWalk.i64_in]
  try simp -implicitDefEqProofs only [go_sem, Nat.reduceBEq, Nat.reduceAdd, Nat.reduceSub, Nat.reduceMul, Nat.reduceLeDiff, Nat.reduceEqDiff, Nat.reduceLT, Int.reduceNeg, Int.reduceAdd, Int.reduceSub, Int.reduceMul, Int.reduceLE, Int.reduceLT, Int.reduceEq, Int.reduceToNat, reduceCtorEq] at hl
  rw [hl]
  have w1 : IntKind.i64.wrap 1 = 1 := by decide
  simp -implicitDefEqProofs (disch := omega) only [go_sem, Nat.reduceBEq, Nat.reduceAdd, Nat.reduceSub, Nat.reduceMul, Nat.reduceLeDiff, Nat.reduceEqDiff, Nat.reduceLT, Int.reduceNeg, Int.reduceAdd, Int.reduceSub, Int.reduceMul, Int.reduceLE, Int.reduceLT, Int.reduceEq, Int.reduceToNat, reduceCtorEq]
  rw [LoopS_eq]
  simp -implicitDefEqProofs (disch := omega) only [go_sem, Nat.reduceBEq, Nat.reduceAdd, Nat.reduceSub, Nat.reduceMul, Nat.reduceLeDiff, Nat.reduceEqDiff, Nat.reduceLT, Int.reduceNeg, Int.reduceAdd, Int.reduceSub, Int.reduceMul, Int.reduceLE, Int.reduceLT, Int.reduceEq, Int.reduceToNat, reduceCtorEq, evL64x0, B64x0, w1, Int.lt_irrefl]
-- find14
theorem run_sameTable (d : Nat) (c0 c1 r0 r1 : Bool) (cs : List Col) (a b : List Row) (hs : cs.length < 1099511627776) (ha : a.length < 1099511627776) (hsa : ∀ r ∈ a, r.vs.length < 1099511627776) (hv : vss a = vss b) : retP (runD tab noExt (d + 4)) 14 [.agg [.sl c0 2 (cs.map Col.cells), .sl r0 1 (a.map Row.cells)], .agg [.sl c1 2 (cs.map Col.cells), .sl r1 1 (b.map Row.cells)]] = some [.bool true] := by
  have hr := run_sameTables1 d c0 c1 r0 r1 cs a b hs ha hsa hv
  simp only [oneT] at hr
  rw [retP, runD_eq find14 _ _ _ (by simp)]
  simp -implicitDefEqProofs (disch := omega) only [go_sem, Nat.reduceBEq, Nat.reduceAdd, Nat.reduceSub, Nat.reduceMul, Nat.reduceLeDiff, Nat.reduceEqDiff, Nat.reduceLT, Int.reduceNeg, Int.reduceAdd, Int.reduceSub, Int.reduceMul, Int.reduceLE, Int.reduceLT, Int.reduceEq, Int.reduceToNat, reduceCtorEq, hr, elemsOf, elemOf, frzs, refs, refC, refsV, List.flatMap_cons, List.flatMap_nil]
theorem rows_short (l : List Ver) (hg : GVs 31 l) (time : Int) : ∀ r ∈ rowsAtV l time, GS r.vs := by
  intro r hr
  rw [rowsAtV_eq] at hr
  obtain ⟨vs, hvs, rfl⟩ := List.mem_map.1 hr
  obtain ⟨k, _, hk⟩ := List.mem_filterMap.1 hvs
  obtain ⟨v, hv, e⟩ := rowV_mem hk
  rw [← e]
  exact hg.2 v hv
-- find3
theorem law_TableAt (b : List UInt8) (hl : b.length ≤ maxLen) : ∃ d h1, runD tab noExt d 3 [.sl false 1 (cellsOfBytes b)] [] = some ([.bool true], h1) := by
  refine ⟨61, ?_⟩
  rw [runD_eq find3 _ _ _ (by simp)]
  have ha := run_alive 55
  by_cases h0 : (1048576 : Int) < b.length
  · simp -implicitDefEqProofs (disch := omega) only [go_sem, Nat.reduceBEq, Nat.reduceAdd, Nat.reduceSub, Nat.reduceMul, Nat.reduceLeDiff, Nat.reduceEqDiff, Nat.reduceLT, Int.reduceNeg, Int.reduceAdd, Int.reduceSub, Int.reduceMul, Int.reduceLE, Int.reduceLT, Int.reduceEq, Int.reduceToNat, reduceCtorEq, ofBytes_len, h0]
    exact ⟨_, rfl⟩
  obtain ⟨cc, cs, l, time, eD, hg, hcs, t0, t1⟩ := run_drawTableAt 50 false b
  obtain ⟨s1, s2⟩ := hg.short
  have hln := hg.1
  obtain ⟨cells, hc, ids, r, o, _, _⟩ := own_tableAt 42 cc false cs l time (by omega) (by omega) s1 s2
  obtain ⟨v0, x0, v1, x1, i0, i1, rfl, hx, _, o0, o1⟩ := ownR_Table o
  simp only [List.cons.injEq, U.sub.injEq, and_true] at hx
  obtain ⟨rfl, rfl⟩ := hx
  obtain ⟨q0, q1, eI, g0, g1⟩ := retP_ownA2 r o0 o1 (by decide) (by decide)
  obtain ⟨ca, cb, eS⟩ := run_tableAtS 52 cc false cs l time (by omega) (by omega) s1 s2
  obtain ⟨cl, rs2, eR, hR⟩ := run_rowsAtI 51 false l time (by omega) s1 s2
  have hgs := rows_short l hg time
  cases ok : tabOk cs l time
  · rw [ok] at eI eS g0 g1
    simp only [Bool.false_eq_true, if_false, List.map_nil] at eS g0 g1
    obtain ⟨cx, rfl⟩ := cols_each (cs := []) g0
    obtain ⟨cy, rs, rfl, hrs⟩ := rows_each (rs := []) g1
    obtain rfl : rs = [] := List.map_eq_nil_iff.1 hrs
    have q := run_sameTable 56 cx ca cy cb [] [] [] (by simp) (by simp) (fun r hr => by cases hr) rfl
    simp only [List.map_nil] at eI q
    simp -implicitDefEqProofs (disch := omega) only [go_sem, Nat.reduceBEq, Nat.reduceAdd, Nat.reduceSub, Nat.reduceMul, Nat.reduceLeDiff, Nat.reduceEqDiff, Nat.reduceLT, Int.reduceNeg, Int.reduceAdd, Int.reduceSub, Int.reduceMul, Int.reduceLE, Int.reduceLT, Int.reduceEq, Int.reduceToNat, reduceCtorEq, ofBytes_len, h0, eD, eI, eS, q, ha, evC_draw, evD3x0, E3x0]
    exact ⟨_, rfl⟩
  · rw [ok] at eI eS g0 g1
    simp only [if_true] at eS g0 g1
    obtain ⟨cx, rfl⟩ := cols_each g0
    obtain ⟨cy, rs, rfl, hrs⟩ := rows_each g1
    have hvs : vss rs = vss (rowsAtV l time) := vss_of hrs
    have hlen := rowsAtV_len l time
    have hrl : rs.length = (rowsAtV l time).length := by simpa using congrArg List.length hrs
    have hgr : ∀ r ∈ rs, GS r.vs := by
      intro r hr
      have hm : r.vs ∈ vss rs := List.mem_map_of_mem hr
      rw [hvs] at hm
      obtain ⟨r2, h2, e2⟩ := List.mem_map.1 hm
      rw [← e2]
      exact hgs r2 h2
    have hgl : ∀ r ∈ rs, r.vs.length < 1099511627776 := fun r hr => by have := (hgr r hr).1; omega
    have q := run_sameTable 56 cx ca cy cb cs rs (rowsAtV l time) (by omega) (by omega) hgl hvs
    have q2 := run_sameRows 58 cy cl rs rs2 (by omega) hgl
    have hvs2 : vss rs = vss rs2 := hvs.trans hR.symm
    rw [decide_eq_true hvs2] at q2
    have hrok : rowsOk cs rs = true := by
      unfold tabOk at ok
      simp only [Bool.and_eq_true] at ok
      rw [← ok.2]
      exact rowsOk_vs hvs
    have hsT : ShortT [⟨cx, cs, cy, rs⟩] := fun t ht => by
      rw [List.mem_singleton.1 ht]
      exact ⟨by show cs.length < _; omega, by show rs.length < _; omega, fun r hr => (hgr r hr).short⟩
    have hto : tablesOk [⟨cx, cs, cy, rs⟩] = true := by
      have h6 : ¬ (6 : Int) < rs.length := by omega
      simp [tablesOk, tblOk, h6, hrok]
    have q3 := run_tablesOkI 44 true [⟨cx, cs, cy, rs⟩] (by simp) hsT
    rw [hto] at q3
    simp only [List.map_cons, List.map_nil, Tbl.cells] at q3
    simp -implicitDefEqProofs (disch := omega) only [go_sem, Nat.reduceBEq, Nat.reduceAdd, Nat.reduceSub, Nat.reduceMul, Nat.reduceLeDiff, Nat.reduceEqDiff, Nat.reduceLT, Int.reduceNeg, Int.reduceAdd, Int.reduceSub, Int.reduceMul, Int.reduceLE, Int.reduceLT, Int.reduceEq, Int.reduceToNat, reduceCtorEq, ofBytes_len, h0, eD, eI, eS, eR, q, q2, q3, ha, evC_draw, evD3x0, E3x0, elemsOf, elemOf, frzs, refs, refC, refsV, List.flatMap_cons, List.flatMap_nil]
    exact ⟨_, rfl⟩
end Go.Proofs.Ytfbjbkkcilhgjaa.PE
/- A list of bytes that comes in, as the evaluator reads it. -/
set_option linter.unusedVariables false
set_option linter.unusedSimpArgs false
namespace Go.Proofs.Ytfbjbkkcilhgjaa.PE
open Go.RowKit

def IsRow (w : World) (a : Option Addr) (len cap : Nat) : Prop :=
  (a = none ∧ len = 0 ∧ cap = 0) ∨
  ∃ (x : Addr) (zs : List Int), a = some x ∧ len ≤ cap ∧ cap ≤ maxLen ∧ zs.length = cap ∧ (∀ i, i < zs.length → w.cell? (x.add i) = some (.int .u8 (zs.getD i 0))) ∧ ∀ n ∈ zs, (Lit.int .u8 n).wf = true

theorem IsRow.rep {w : World} {a : Option Addr} {len cap : Nat} (h : IsRow w a len cap) : ∃ l : List UInt8, l.length ≤ maxLen ∧ RepA w (fun b => b < w.heap.size) (.slice a len cap) (.sl false 1 (cellsOfBytes l)) := by
  rcases h with ⟨rfl, rfl, rfl⟩ | ⟨x, zs, rfl, h1, h2, h3, h4, h5⟩
  · exact ⟨[], Nat.zero_le _, rep_empty (by decide) (fun h => by cases h)⟩
  · have hb : ∀ i, i < zs.length → 0 ≤ zs.getD i 0 ∧ zs.getD i 0 < 256 := fun i hi => by
      have := h5 (zs.getD i 0) (by rw [List.getD_eq_getElem?_getD, List.getElem?_eq_getElem hi]; exact List.getElem_mem hi)
      simp only [Lit.wf, decide_eq_true_eq] at this
      have h1 : IntKind.u8.min = 0 := rfl
      have h2 : IntKind.u8.max = 255 := rfl
      simp only [Bool.and_eq_true, decide_eq_true_eq, h1, h2] at this
      omega
    refine ⟨(zs.take len).map fun z => UInt8.ofNat z.toNat, by simp; omega, ?_⟩
    refine Rep.sl (some x) len cap false _ 1 (fun j _ => .int .u8 (zs.getD j 0)) (by simp [cellsOfBytes]; omega) h1 (fun h => by cases h) (by decide) (fun y hy => ?_) (fun hn => ?_) (fun j c y z hy hz => ?_)
    · simp only [cellsOfBytes, List.mem_map] at hy
      obtain ⟨b, _, rfl⟩ := hy
      rfl
    · obtain ⟨g, o, sp⟩ := x
      have h0 := h4 0 (by omega)
      have hsp : sp = none := by
        simp only [Addr.add, if_true] at h0
        unfold World.cell? at h0
        cases sp with
        | none => rfl
        | some s => simp at h0; split at h0 <;> cases h0
      subst hsp
      refine ⟨g, o, rfl, ?_, fun j c y z hy hz => ?_⟩
      · simp only [Addr.add, if_true] at h0
        unfold World.cell? at h0
        rcases Nat.lt_or_ge g w.heap.size with hg | hg
        · exact hg
        · rw [Array.getElem?_eq_none hg] at h0; cases h0
      · have hj : j < ((zs.take len).map fun z => UInt8.ofNat z.toNat).length := by
          have := (List.getElem?_eq_some_iff.1 hy).1
          simpa [cellsOfBytes] using this
        simp only [List.length_map, List.length_take] at hj
        simp only [cellsOfBytes, List.getElem?_map] at hy
        obtain ⟨b, _, rfl⟩ := Option.map_eq_some_iff.1 hy
        have hc : c = 0 := by
          have := (List.getElem?_eq_some_iff.1 hz).1
          simp at this
          omega
        subst hc
        have := h4 j (by omega)
        rw [add0] at this
        simpa using this
    · have hj : j < zs.length := by
        have := (List.getElem?_eq_some_iff.1 hy).1
        simp [cellsOfBytes] at this
        omega
      have hjl : j < len := by
        have := (List.getElem?_eq_some_iff.1 hy).1
        simp [cellsOfBytes] at this
        omega
      have hbj := hb j hj
      have hc : c = 0 := by
        simp only [cellsOfBytes, List.getElem?_map] at hy
        obtain ⟨b, _, rfl⟩ := Option.map_eq_some_iff.1 hy
        have := (List.getElem?_eq_some_iff.1 hz).1
        simp at this
        omega
      subst hc
      rw [List.getD_eq_getElem?_getD, List.getElem?_eq_getElem hj] at hbj
      simp [cellsOfBytes, List.getElem?_take_of_lt hjl, List.getElem?_eq_getElem hj] at hy
      subst hy
      simp at hz
      subst hz
      simp only [Option.getD_some] at hbj
      have e : ((UInt8.ofNat (zs[j]).toNat).toNat : Int) = zs[j] := by
        simp
        omega
      simp only [List.getD_eq_getElem?_getD, List.getElem?_eq_getElem hj, Option.getD_some]
      rw [show max zs[j] 0 % 256 = zs[j] by omega]
      exact .int _ _
end Go.Proofs.Ytfbjbkkcilhgjaa.PE
