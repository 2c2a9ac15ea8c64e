/- Texts of this claim, one behind the other: Pu5, Pu6, Px1, Pn1, Pn4, Pn5, Pn6, Pn7, Pr5. -/
import Derived.Test.YtgepapgabnaonaaG0
import Derived.Deep.Slices
import Derived.ChangeArms
/- What sizes, copies, comparisons and marks do, type by type. -/
set_option linter.unusedVariables false
set_option linter.unusedSimpArgs false
set_option maxHeartbeats 4000000
namespace Go.Proofs.Ytgepapgabnaonaa.PE
open Go.RowKit

/-! ### Column -/
def fdColumn : List Fd := [.int .i64, .bool]
theorem purR_Column {c : List V} {x : List U} (h : PurR fdColumn c x) : ∃ (a0 : Int) (a1 : Bool), c = [.int .i64 a0, .bool a1] ∧ x = [.int a0, .bool a1] := by
  simp only [fdColumn, PurR] at h
  obtain ⟨v0, _, u0, _, rfl, rfl, g0, v1, _, u1, _, rfl, rfl, g1, rfl, rfl⟩ := h
  simp only [PurF] at g0
  obtain ⟨a0, rfl, rfl⟩ := g0
  simp only [PurF] at g1
  obtain ⟨a1, rfl, rfl⟩ := g1
  exact ⟨a0, a1, rfl, rfl⟩
theorem purR_mk_Column (a0 : Int) (a1 : Bool) : PurR fdColumn [.int .i64 a0, .bool a1] [.int a0, .bool a1] := by
  simp only [fdColumn, PurR]
  exact ⟨_, _, _, _, rfl, rfl, (by simp only [PurF]; first | exact ⟨a0, rfl, rfl⟩ | exact ⟨a0, rfl⟩ | trivial), _, _, _, _, rfl, rfl, (by simp only [PurF]; first | exact ⟨a1, rfl, rfl⟩ | exact ⟨a1, rfl⟩ | trivial), rfl, rfl⟩
theorem purS_Column {p : V} {xs : List (List U)} (hp : PurF (.sub fdColumn) p (.sub xs)) : ∃ cl cont, p = .sl cl 2 cont ∧ Zip2 (PurR fdColumn) cont xs := by
  simp only [PurF] at hp
  obtain ⟨cl, cont, xs', rfl, e, hz⟩ := hp
  injection e with e
  subst e
  exact ⟨cl, cont, rfl, hz⟩
theorem ownR_Column {h : Heap} {c : List V} {x : List U} {i : List Nat} (ho : OwnR h fdColumn c x i) : ∃ (a0 : Int) (a1 : Bool) , c = [.int .i64 a0, .bool a1] ∧ x = [.int a0, .bool a1] ∧ i = [] := by
  simp only [fdColumn, OwnR] at ho
  obtain ⟨v0, _, u0, _, i0, _, rfl, rfl, rfl, g0, v1, _, u1, _, i1, _, rfl, rfl, rfl, g1, rfl, rfl, rfl⟩ := ho
  simp only [OwnF] at g0
  obtain ⟨a0, rfl, rfl, rfl⟩ := g0
  simp only [OwnF] at g1
  obtain ⟨a1, rfl, rfl, rfl⟩ := g1
  exact ⟨a0, a1, rfl, rfl, by simp⟩
theorem ownR_mk_Column (h : Heap) (a0 : Int) (a1 : Bool) : OwnR h fdColumn [.int .i64 a0, .bool a1] [.int a0, .bool a1] [] := by
  simp only [fdColumn, OwnR]
  exact ⟨_, _, _, _, [], [], rfl, rfl, (by simp), (by simp only [OwnF]; first | exact ⟨a0, rfl, rfl, rfl⟩ | exact ⟨a0, rfl, rfl, trivial⟩ | exact ⟨a0, rfl, rfl⟩ | exact ⟨a0, rfl⟩ | trivial), _, _, _, _, [], [], rfl, rfl, (by simp), (by simp only [OwnF]; first | exact ⟨a1, rfl, rfl, rfl⟩ | exact ⟨a1, rfl, rfl, trivial⟩ | exact ⟨a1, rfl, rfl⟩ | exact ⟨a1, rfl⟩ | trivial), rfl, rfl, rfl⟩
theorem heldR_Column {x : List U} {k k' : Int} (h : HeldR fdColumn x k k') (h0 : 0 ≤ k) (h1 : k' ≤ 4611686018427387904) : x = [.int k, .bool (decide (Int.tmod (k + 1) 3 = 0))] ∧ k' = k + 2 := by
  simp only [fdColumn, HeldR] at h
  obtain ⟨u0, _, m0, rfl, g0, u1, _, m1, rfl, g1, rfl, ek⟩ := h
  simp only [HeldF] at g0
  obtain ⟨rfl, rfl⟩ := g0
  simp only [HeldF] at g1
  obtain ⟨rfl, rfl⟩ := g1
  exact ⟨by simp (disch := omega) only [IntWalk.i64_in, Int.add_assoc, Int.reduceAdd], by simp only [ek, Int.add_assoc, Int.reduceAdd]⟩
theorem heldR_mk_Column (k : Int)  (h0 : 0 ≤ k) (h1 : k + 2 ≤ 4611686018427387904) : HeldR fdColumn [.int k, .bool (decide (Int.tmod (k + 1) 3 = 0))] k (k + 2) := by
  simp only [fdColumn, HeldR]
  exact ⟨_, _, _, rfl, (by simp only [HeldF]; first | trivial | exact ⟨by simp (disch := omega) only [IntWalk.i64_in, Int.add_assoc, Int.reduceAdd], rfl⟩), _, _, _, rfl, (by simp only [HeldF]; first | trivial | exact ⟨by simp (disch := omega) only [IntWalk.i64_in, Int.add_assoc, Int.reduceAdd], rfl⟩), rfl, by simp only [Int.add_assoc, Int.reduceAdd]⟩
-- find22
theorem run_szColumnS (d : Nat) {p : V} {xs : List (List U)} (l : Int) (hp : PurF (.sub fdColumn) p (.sub xs)) (hb : LenF 9223372036854775807 9223372036854775807 (.sub fdColumn) (.sub xs)) (h0 : 0 ≤ l) (h1 : l ≤ 1048576) : retP (runD tab noExt (d + 1)) 22 [p, .int .i64 l] = some [.int .i64 (szF (.sub fdColumn) (.sub xs) l)] := by
  obtain ⟨cl, cont, rfl, hz⟩ := purS_Column hp
  simp only [LenF] at hb
  obtain ⟨hb1, hb2⟩ := hb
  have hl := Zip2_len hz
  rw [retP, runD_eq find22 _ _ _ (by simp)]
  rw [szF, ← hl]
  by_cases e : l - (cont.length : Int) < 0
  · simp -implicitDefEqProofs (disch := omega) only [go_sem, Nat.reduceBEq, Nat.reduceAdd, Nat.reduceSub, Nat.reduceMul, Nat.reduceLeDiff, Nat.reduceEqDiff, Nat.reduceLT, Int.reduceNeg, Int.reduceAdd, Int.reduceSub, Int.reduceMul, Int.reduceLE, Int.reduceLT, Int.reduceEq, Int.reduceToNat, reduceCtorEq, IntWalk.i64_in, e, if_true]
  · rw [if_neg e, szZ_nonneg (by omega) (fun x => szR_nonneg _ x _ (by omega) (by simp [fdColumn]))]
    simp -implicitDefEqProofs (disch := omega) only [go_sem, Nat.reduceBEq, Nat.reduceAdd, Nat.reduceSub, Nat.reduceMul, Nat.reduceLeDiff, Nat.reduceEqDiff, Nat.reduceLT, Int.reduceNeg, Int.reduceAdd, Int.reduceSub, Int.reduceMul, Int.reduceLE, Int.reduceLT, Int.reduceEq, Int.reduceToNat, reduceCtorEq, IntWalk.i64_in, e]
-- find76
theorem run_toColumn (d : Nat) (h : Heap) (a0 : Int) (a1 : Bool) : callX (runD tab noExt (d + 1)) h 0 76 [.agg [.int .i64 a0, .bool a1]] = some (.agg [.int .i64 a0, .bool a1], h) := by
  simp only [callX, callO, pureDAs, mapO, pureDA, pureD, deepest, Option.map_some]
  rw [runD_eq find76 _ _ _ (by simp)]
  simp -implicitDefEqProofs (disch := omega) only [go_sem, Nat.reduceBEq, Nat.reduceAdd, Nat.reduceSub, Nat.reduceMul, Nat.reduceLeDiff, Nat.reduceEqDiff, Nat.reduceLT, Int.reduceNeg, Int.reduceAdd, Int.reduceSub, Int.reduceMul, Int.reduceLE, Int.reduceLT, Int.reduceEq, Int.reduceToNat, reduceCtorEq, BackO]
-- find24
theorem run_toColumnS (d : Nat) : ToOK (d + 2) 24 fdColumn := by
  intro p xs hp hx hb
  obtain ⟨cl, cont, rfl, hz⟩ := purS_Column hp
  have hl := Zip2_len hz
  rw [runD_eq find24 _ _ _ (by simp)]
  obtain ⟨h', r, e1, e2, e3⟩ := to_loop (run := runD tab noExt (d + 1)) (draw := drawI (runD tab noExt (d + 1))) (c := L24x0) (zero := [.int .i64 0, .bool false]) (cl := cl) (sz := 2) hz (fun h K => by
        rw [LoopK_eq]
        simp -implicitDefEqProofs only [go_sem, Nat.reduceBEq, Nat.reduceAdd, Nat.reduceSub, Nat.reduceMul, Nat.reduceLeDiff, Nat.reduceEqDiff, Nat.reduceLT, Int.reduceNeg, Int.reduceAdd, Int.reduceSub, Int.reduceMul, Int.reduceLE, Int.reduceLT, Int.reduceEq, Int.reduceToNat, reduceCtorEq, evL24x0, B24x0, Int.lt_irrefl]) (fun i cc x h C K hc hx hi hr hh hC hCl => by
        obtain ⟨a0, a1, rfl, rfl⟩ := purR_Column hr
        have hi' : i < C.length := by omega
        have hi2 : i < cont.length := by omega
        have hh' : h[0]? = some (.rows 0 2 C) := hh
        have h0 : 0 < h.length := (List.getElem?_eq_some_iff.1 hh).1
        have he := run_toColumn d h a0 a1
        refine ⟨h.set 0 (.rows 0 2 (C.set i [.int .i64 a0, .bool a1])), _, [], ?_, by rw [List.getElem?_set_self h0]; rfl, ownR_mk_Column _ a0 a1, List.nodup_nil, (fun j hj => by cases hj), (fun j hj _ => by rw [List.getElem?_set_ne (Ne.symm hj)]), by simp⟩
        rw [LoopK_eq]
        simp -implicitDefEqProofs (disch := omega) only [go_sem, Nat.reduceBEq, Nat.reduceAdd, Nat.reduceSub, Nat.reduceMul, Nat.reduceLeDiff, Nat.reduceEqDiff, Nat.reduceLT, Int.reduceNeg, Int.reduceAdd, Int.reduceSub, Int.reduceMul, Int.reduceLE, Int.reduceLT, Int.reduceEq, Int.reduceToNat, reduceCtorEq, evL24x0, B24x0, hi, hi2, hc, he, hh', hC, IntWalk.i64_in, IntWalk.u8_in]) (h := [.rows 0 2 (List.replicate cont.length [.int .i64 0, .bool false])]) rfl 1099511627775 (by omega)
  have k1 : ((cont.length : Int) < 4294967296) = True := eq_true (by omega)
  simp -implicitDefEqProofs (disch := omega) only [go_sem, Nat.reduceBEq, Nat.reduceAdd, Nat.reduceSub, Nat.reduceMul, Nat.reduceLeDiff, Nat.reduceEqDiff, Nat.reduceLT, Int.reduceNeg, Int.reduceAdd, Int.reduceSub, Int.reduceMul, Int.reduceLE, Int.reduceLT, Int.reduceEq, Int.reduceToNat, reduceCtorEq, small, k1]
  rw [e1]
  simp -implicitDefEqProofs only [go_sem, Nat.reduceBEq, Nat.reduceAdd, Nat.reduceSub, Nat.reduceMul, Nat.reduceLeDiff, Nat.reduceEqDiff, Nat.reduceLT, Int.reduceNeg, Int.reduceAdd, Int.reduceSub, Int.reduceMul, Int.reduceLE, Int.reduceLT, Int.reduceEq, Int.reduceToNat, reduceCtorEq]
  exact ⟨_, _, _, rfl, e2, e3⟩
-- find79
theorem run_eqColumn (d : Nat) (a0 : Int) (a1 : Bool)  : retP (runD tab noExt (d + 1)) 79 [.agg [.int .i64 a0, .bool a1], .agg [.int .i64 a0, .bool a1]] = some [.bool true] := by
  rw [retP, runD_eq find79 _ _ _ (by simp)]
  simp -implicitDefEqProofs (disch := omega) only [go_sem, Nat.reduceBEq, Nat.reduceAdd, Nat.reduceSub, Nat.reduceMul, Nat.reduceLeDiff, Nat.reduceEqDiff, Nat.reduceLT, Int.reduceNeg, Int.reduceAdd, Int.reduceSub, Int.reduceMul, Int.reduceLE, Int.reduceLT, Int.reduceEq, Int.reduceToNat, reduceCtorEq]
-- find28
theorem run_eqColumnS (d : Nat) : EqOK (d + 2) 28 fdColumn := by
  intro p q xs hp hq hb
  obtain ⟨cl, cont, rfl, hz⟩ := purS_Column hp
  obtain ⟨cl', cont', rfl, hz'⟩ := purS_Column hq
  simp only [LenF, big] at hb
  have hl := Zip2_len hz
  have hl' := Zip2_len hz'
  rw [retP, runD_eq find28 _ _ _ (by simp)]
  have hlp := eq_loop (run := runD tab noExt (d + 1)) (draw := drawI (runD tab noExt (d + 1))) (c := L28x0) (n0 := 0) (cl := cl) (cl' := cl') (sz := 2) hz hz' (fun K => by
        rw [LoopS_eq, ← hl]
        simp -implicitDefEqProofs only [go_sem, Nat.reduceBEq, Nat.reduceAdd, Nat.reduceSub, Nat.reduceMul, Nat.reduceLeDiff, Nat.reduceEqDiff, Nat.reduceLT, Int.reduceNeg, Int.reduceAdd, Int.reduceSub, Int.reduceMul, Int.reduceLE, Int.reduceLT, Int.reduceEq, Int.reduceToNat, reduceCtorEq, evL28x0, B28x0, Int.lt_irrefl]) (fun i cc cc' x K hc hc' hx hi hr hr' => by
        obtain ⟨a0, a1, rfl, rfl⟩ := purR_Column hr
        obtain ⟨b0, b1, rfl, e⟩ := purR_Column hr'
        simp only [List.cons.injEq, U.int.injEq, U.bool.injEq, U.str.injEq, U.sub.injEq, and_true] at e
        obtain ⟨rfl, rfl⟩ := e
        have he := run_eqColumn d a0 a1 
        rw [LoopS_eq]
        simp -implicitDefEqProofs (disch := omega) only [go_sem, Nat.reduceBEq, Nat.reduceAdd, Nat.reduceSub, Nat.reduceMul, Nat.reduceLeDiff, Nat.reduceEqDiff, Nat.reduceLT, Int.reduceNeg, Int.reduceAdd, Int.reduceSub, Int.reduceMul, Int.reduceLE, Int.reduceLT, Int.reduceEq, Int.reduceToNat, reduceCtorEq, evL28x0, B28x0, evC_draw, evD28x0, E28x0, hi, hc, hc', he, IntWalk.i64_in]) 1099511627775 (by omega)
  simp -implicitDefEqProofs (disch := omega) only [go_sem, Nat.reduceBEq, Nat.reduceAdd, Nat.reduceSub, Nat.reduceMul, Nat.reduceLeDiff, Nat.reduceEqDiff, Nat.reduceLT, Int.reduceNeg, Int.reduceAdd, Int.reduceSub, Int.reduceMul, Int.reduceLE, Int.reduceLT, Int.reduceEq, Int.reduceToNat, reduceCtorEq, hl, hl']
  rw [hlp]
  simp -implicitDefEqProofs only [go_sem, Nat.reduceBEq, Nat.reduceAdd, Nat.reduceSub, Nat.reduceMul, Nat.reduceLeDiff, Nat.reduceEqDiff, Nat.reduceLT, Int.reduceNeg, Int.reduceAdd, Int.reduceSub, Int.reduceMul, Int.reduceLE, Int.reduceLT, Int.reduceEq, Int.reduceToNat, reduceCtorEq]
-- find30
theorem run_markColumnS (d : Nat) : MarkOK (d + 1) 30 fdColumn := by
  intro h v xs ids k ho hn hb h0 hk
  simp only [cntF] at hk ⊢
  simp only [LenF] at hb
  have ho' := ho
  simp only [OwnF] at ho
  obtain ⟨xs', e, ⟨cl, rfl, rfl, rfl⟩ | ⟨id, st, clip, cont, r, rfl, e2, rfl, ho⟩⟩ := ho <;> injection e with e <;> subst e
  · refine ⟨h, [], ?_, ho', by simp only [HeldF]; exact ⟨[], rfl, by simp [HeldZ, sumU]⟩, by simp [LenF, AllU], fun _ _ => rfl, rfl⟩
    simp only [callX, callK]
    rw [runD_eq find30 _ _ _ (by simp)]
    simp -implicitDefEqProofs (disch := omega) only [go_sem, Nat.reduceBEq, Nat.reduceAdd, Nat.reduceSub, Nat.reduceMul, Nat.reduceLeDiff, Nat.reduceEqDiff, Nat.reduceLT, Int.reduceNeg, Int.reduceAdd, Int.reduceSub, Int.reduceMul, Int.reduceLE, Int.reduceLT, Int.reduceEq, Int.reduceToNat, reduceCtorEq]
    rw [LoopK_eq]
    simp -implicitDefEqProofs only [go_sem, Nat.reduceBEq, Nat.reduceAdd, Nat.reduceSub, Nat.reduceMul, Nat.reduceLeDiff, Nat.reduceEqDiff, Nat.reduceLT, Int.reduceNeg, Int.reduceAdd, Int.reduceSub, Int.reduceMul, Int.reduceLE, Int.reduceLT, Int.reduceEq, Int.reduceToNat, reduceCtorEq, evL30x0, B30x0, Int.lt_irrefl, resOk, sumU, Int.add_zero]
  · have hl := Zip3_len ho
    have hlb : cont.length ≤ 1099511627775 := by have := hb.1; unfold big at this; omega
    obtain ⟨h', ys, f1, f2, f3, f4, f5, f6, f7⟩ := mark_loop (run := runD tab noExt d) (draw := drawI (runD tab noExt d)) (c := L30x0) (fs := fdColumn) (id := id) (st := st) (n := cont.length) (clip := clip) (xs := xs) (h := h) (cont := cont) (r := r) (k := k) (fun h k K => by
        rw [LoopK_eq]
        simp -implicitDefEqProofs only [go_sem, Nat.reduceBEq, Nat.reduceAdd, Nat.reduceSub, Nat.reduceMul, Nat.reduceLeDiff, Nat.reduceEqDiff, Nat.reduceLT, Int.reduceNeg, Int.reduceAdd, Int.reduceSub, Int.reduceMul, Int.reduceLE, Int.reduceLT, Int.reduceEq, Int.reduceToNat, reduceCtorEq, evL30x0, B30x0, Int.lt_irrefl]) (fun i h C cc x a k K hi hh hCl hC hr hx hid hnd h0 hk => by
        obtain ⟨a0, a1, rfl, rfl, rfl⟩ := ownR_Column hr
        have hcnt : cntR fdColumn [.int a0, .bool a1] = 1 + 1 := by simp only [fdColumn, cntR, cntF_int, cntF_bool, cntF_str] <;> omega
        rw [hcnt] at hk ⊢
        have hh' : h[id]? = some (.rows st 2 C) := hh
        have hidl : id < h.length := (List.getElem?_eq_some_iff.1 hh').1
        have hi' : i < C.length := by omega
        have hi2 : i < cont.length := by omega
        refine ⟨h.set id (.rows st 2 (C.set i [.int .i64 k, .bool (decide (Int.tmod (k + 1) 3 = 0))])), [.int .i64 k, .bool (decide (Int.tmod (k + 1) 3 = 0))], [.int k, .bool (decide (Int.tmod (k + 1) 3 = 0))], ?_, by rw [List.getElem?_set_self hidl]; rfl, ownR_mk_Column _ (k) ((decide (Int.tmod (k + 1) 3 = 0))), ?_, ⟨trivial, trivial, trivial⟩, (fun j hj hj2 => by rw [List.getElem?_set_ne (Ne.symm hj)]), by simp⟩
        · rw [LoopK_eq]
          simp -implicitDefEqProofs (disch := omega) only [go_sem, Nat.reduceBEq, Nat.reduceAdd, Nat.reduceSub, Nat.reduceMul, Nat.reduceLeDiff, Nat.reduceEqDiff, Nat.reduceLT, Int.reduceNeg, Int.reduceAdd, Int.reduceSub, Int.reduceMul, Int.reduceLE, Int.reduceLT, Int.reduceEq, Int.reduceToNat, reduceCtorEq, evL30x0, B30x0, hi, hi2, hh', hC, IntWalk.i64_in, IntWalk.u8_in, refs, refC, frzs, List.contains_nil, List.getElem?_set_self, List.length_set, List.set_set, Int.add_assoc, Int.natCast_add, Int.natCast_one, Int.cast_ofNat_Int, pures, okN, hidl, hi']
        · have hq := heldR_mk_Column k h0 (by omega)
          first | exact hq | (refine cast ?_ hq; simp only [Int.add_assoc, Int.natCast_add, Int.natCast_one, Int.cast_ofNat_Int, Int.reduceAdd]) | (simpa only [Int.add_assoc, Int.natCast_add, Int.natCast_one, Int.cast_ofNat_Int, Int.reduceAdd] using hq)
        ) rfl e2 ho hn hb.2 h0 hk 1099511627775 (by omega)
    refine ⟨h', ys, ?_, f2, by simp only [HeldF]; exact ⟨ys, rfl, f3⟩, by simp only [LenF]; exact ⟨by omega, f5⟩, f6, f7⟩
    simp only [callX, callK]
    rw [runD_eq find30 _ _ _ (by simp)]
    simp -implicitDefEqProofs (disch := omega) only [go_sem, Nat.reduceBEq, Nat.reduceAdd, Nat.reduceSub, Nat.reduceMul, Nat.reduceLeDiff, Nat.reduceEqDiff, Nat.reduceLT, Int.reduceNeg, Int.reduceAdd, Int.reduceSub, Int.reduceMul, Int.reduceLE, Int.reduceLT, Int.reduceEq, Int.reduceToNat, reduceCtorEq]
    rw [f1]
    simp -implicitDefEqProofs only [go_sem, Nat.reduceBEq, Nat.reduceAdd, Nat.reduceSub, Nat.reduceMul, Nat.reduceLeDiff, Nat.reduceEqDiff, Nat.reduceLT, Int.reduceNeg, Int.reduceAdd, Int.reduceSub, Int.reduceMul, Int.reduceLE, Int.reduceLT, Int.reduceEq, Int.reduceToNat, reduceCtorEq, resOk]
/-! ### Value -/
def fdValue : List Fd := [.int .i64, .int .i64, .str]
theorem purR_Value {c : List V} {x : List U} (h : PurR fdValue c x) : ∃ (a0 : Int) (a1 : Int) (a2 : ByteArray), c = [.int .i64 a0, .int .i64 a1, .str a2] ∧ x = [.int a0, .int a1, .str a2] := by
  simp only [fdValue, PurR] at h
  obtain ⟨v0, _, u0, _, rfl, rfl, g0, v1, _, u1, _, rfl, rfl, g1, v2, _, u2, _, rfl, rfl, g2, rfl, rfl⟩ := h
  simp only [PurF] at g0
  obtain ⟨a0, rfl, rfl⟩ := g0
  simp only [PurF] at g1
  obtain ⟨a1, rfl, rfl⟩ := g1
  simp only [PurF] at g2
  obtain ⟨a2, rfl, rfl⟩ := g2
  exact ⟨a0, a1, a2, rfl, rfl⟩
theorem purR_mk_Value (a0 : Int) (a1 : Int) (a2 : ByteArray) : PurR fdValue [.int .i64 a0, .int .i64 a1, .str a2] [.int a0, .int a1, .str a2] := by
  simp only [fdValue, PurR]
  exact ⟨_, _, _, _, rfl, rfl, (by simp only [PurF]; first | exact ⟨a0, rfl, rfl⟩ | exact ⟨a0, rfl⟩ | trivial), _, _, _, _, rfl, rfl, (by simp only [PurF]; first | exact ⟨a1, rfl, rfl⟩ | exact ⟨a1, rfl⟩ | trivial), _, _, _, _, rfl, rfl, (by simp only [PurF]; first | exact ⟨a2, rfl, rfl⟩ | exact ⟨a2, rfl⟩ | trivial), rfl, rfl⟩
theorem purS_Value {p : V} {xs : List (List U)} (hp : PurF (.sub fdValue) p (.sub xs)) : ∃ cl cont, p = .sl cl 3 cont ∧ Zip2 (PurR fdValue) cont xs := by
  simp only [PurF] at hp
  obtain ⟨cl, cont, xs', rfl, e, hz⟩ := hp
  injection e with e
  subst e
  exact ⟨cl, cont, rfl, hz⟩
theorem ownR_Value {h : Heap} {c : List V} {x : List U} {i : List Nat} (ho : OwnR h fdValue c x i) : ∃ (a0 : Int) (a1 : Int) (a2 : ByteArray) , c = [.int .i64 a0, .int .i64 a1, .str a2] ∧ x = [.int a0, .int a1, .str a2] ∧ i = [] := by
  simp only [fdValue, OwnR] at ho
  obtain ⟨v0, _, u0, _, i0, _, rfl, rfl, rfl, g0, v1, _, u1, _, i1, _, rfl, rfl, rfl, g1, v2, _, u2, _, i2, _, rfl, rfl, rfl, g2, rfl, rfl, rfl⟩ := ho
  simp only [OwnF] at g0
  obtain ⟨a0, rfl, rfl, rfl⟩ := g0
  simp only [OwnF] at g1
  obtain ⟨a1, rfl, rfl, rfl⟩ := g1
  simp only [OwnF] at g2
  obtain ⟨a2, rfl, rfl, rfl⟩ := g2
  exact ⟨a0, a1, a2, rfl, rfl, by simp⟩
theorem ownR_mk_Value (h : Heap) (a0 : Int) (a1 : Int) (a2 : ByteArray) : OwnR h fdValue [.int .i64 a0, .int .i64 a1, .str a2] [.int a0, .int a1, .str a2] [] := by
  simp only [fdValue, OwnR]
  exact ⟨_, _, _, _, [], [], rfl, rfl, (by simp), (by simp only [OwnF]; first | exact ⟨a0, rfl, rfl, rfl⟩ | exact ⟨a0, rfl, rfl, trivial⟩ | exact ⟨a0, rfl, rfl⟩ | exact ⟨a0, rfl⟩ | trivial), _, _, _, _, [], [], rfl, rfl, (by simp), (by simp only [OwnF]; first | exact ⟨a1, rfl, rfl, rfl⟩ | exact ⟨a1, rfl, rfl, trivial⟩ | exact ⟨a1, rfl, rfl⟩ | exact ⟨a1, rfl⟩ | trivial), _, _, _, _, [], [], rfl, rfl, (by simp), (by simp only [OwnF]; first | exact ⟨a2, rfl, rfl, rfl⟩ | exact ⟨a2, rfl, rfl, trivial⟩ | exact ⟨a2, rfl, rfl⟩ | exact ⟨a2, rfl⟩ | trivial), rfl, rfl, rfl⟩
theorem heldR_Value {x : List U} {k k' : Int} (h : HeldR fdValue x k k') (h0 : 0 ≤ k) (h1 : k' ≤ 4611686018427387904) : x = [.int k, .int (k + 1), .str (txt (k + 2))] ∧ k' = k + 3 := by
  simp only [fdValue, HeldR] at h
  obtain ⟨u0, _, m0, rfl, g0, u1, _, m1, rfl, g1, u2, _, m2, rfl, g2, rfl, ek⟩ := h
  simp only [HeldF] at g0
  obtain ⟨rfl, rfl⟩ := g0
  simp only [HeldF] at g1
  obtain ⟨rfl, rfl⟩ := g1
  simp only [HeldF] at g2
  obtain ⟨rfl, rfl⟩ := g2
  exact ⟨by simp (disch := omega) only [IntWalk.i64_in, Int.add_assoc, Int.reduceAdd], by simp only [ek, Int.add_assoc, Int.reduceAdd]⟩
theorem heldR_mk_Value (k : Int)  (h0 : 0 ≤ k) (h1 : k + 3 ≤ 4611686018427387904) : HeldR fdValue [.int k, .int (k + 1), .str (txt (k + 2))] k (k + 3) := by
  simp only [fdValue, HeldR]
  exact ⟨_, _, _, rfl, (by simp only [HeldF]; first | trivial | exact ⟨by simp (disch := omega) only [IntWalk.i64_in, Int.add_assoc, Int.reduceAdd], rfl⟩), _, _, _, rfl, (by simp only [HeldF]; first | trivial | exact ⟨by simp (disch := omega) only [IntWalk.i64_in, Int.add_assoc, Int.reduceAdd], rfl⟩), _, _, _, rfl, (by simp only [HeldF]; first | trivial | exact ⟨by simp (disch := omega) only [IntWalk.i64_in, Int.add_assoc, Int.reduceAdd], rfl⟩), rfl, by simp only [Int.add_assoc, Int.reduceAdd]⟩
-- find130
theorem run_szValue (d : Nat) (a0 : Int) (a1 : Int) (a2 : ByteArray) (l : Int) (hb : LenR 9223372036854775807 9223372036854775807 fdValue [.int a0, .int a1, .str a2]) (h0 : 0 ≤ l) (h1 : l ≤ 1048576) : retP (runD tab noExt (d + 1)) 130 [.agg [.int .i64 a0, .int .i64 a1, .str a2], .int .i64 l] = some [.int .i64 (szR fdValue [.int a0, .int a1, .str a2] l)] := by
  rw [retP, runD_eq find130 _ _ _ (by simp)]
  have e0 : (l < 0) = False := eq_false (by omega)
  simp only [fdValue, LenR] at hb
  have hb2 := hb.2.2.1
  simp only [LenF] at hb2
  have hm0 : l - (a2.size : Int) ≤ 1048576 := by omega
  by_cases e1 : (l - (a2.size : Int)) < 0
  · simp -implicitDefEqProofs (disch := omega) only [go_sem, Nat.reduceBEq, Nat.reduceAdd, Nat.reduceSub, Nat.reduceMul, Nat.reduceLeDiff, Nat.reduceEqDiff, Nat.reduceLT, Int.reduceNeg, Int.reduceAdd, Int.reduceSub, Int.reduceMul, Int.reduceLE, Int.reduceLT, Int.reduceEq, Int.reduceToNat, reduceCtorEq, IntWalk.i64_in, szR, szF_int, szF_bool, szF_str, fdValue, e0, e1, if_true, if_false]
  · simp -implicitDefEqProofs (disch := omega) only [go_sem, Nat.reduceBEq, Nat.reduceAdd, Nat.reduceSub, Nat.reduceMul, Nat.reduceLeDiff, Nat.reduceEqDiff, Nat.reduceLT, Int.reduceNeg, Int.reduceAdd, Int.reduceSub, Int.reduceMul, Int.reduceLE, Int.reduceLT, Int.reduceEq, Int.reduceToNat, reduceCtorEq, IntWalk.i64_in, szR, szF_int, szF_bool, szF_str, fdValue, e0, e1, if_true, if_false]
-- find114
theorem run_szValueS (d : Nat) {p : V} {xs : List (List U)} (l : Int) (hp : PurF (.sub fdValue) p (.sub xs)) (hb : LenF 9223372036854775807 9223372036854775807 (.sub fdValue) (.sub xs)) (h0 : 0 ≤ l) (h1 : l ≤ 1048576) : retP (runD tab noExt (d + 2)) 114 [p, .int .i64 l] = some [.int .i64 (szF (.sub fdValue) (.sub xs) l)] := by
  obtain ⟨cl, cont, rfl, hz⟩ := purS_Value hp
  simp only [LenF] at hb
  obtain ⟨hb1, hb2⟩ := hb
  have hl := Zip2_len hz
  rw [retP, runD_eq find114 _ _ _ (by simp)]
  rw [szF, ← hl]
  by_cases e : l - (cont.length : Int) < 0
  · simp -implicitDefEqProofs (disch := omega) only [go_sem, Nat.reduceBEq, Nat.reduceAdd, Nat.reduceSub, Nat.reduceMul, Nat.reduceLeDiff, Nat.reduceEqDiff, Nat.reduceLT, Int.reduceNeg, Int.reduceAdd, Int.reduceSub, Int.reduceMul, Int.reduceLE, Int.reduceLT, Int.reduceEq, Int.reduceToNat, reduceCtorEq, IntWalk.i64_in, e, if_true]
  · have hlp := sz_loop (run := runD tab noExt (d + 1)) (draw := drawI (runD tab noExt (d + 1))) (c := L114x0) (n0 := 0) (SR := szR fdValue) (cl := cl) (sz := 3) hz (fun l K => by
        rw [LoopS_eq]
        simp -implicitDefEqProofs only [go_sem, Nat.reduceBEq, Nat.reduceAdd, Nat.reduceSub, Nat.reduceMul, Nat.reduceLeDiff, Nat.reduceEqDiff, Nat.reduceLT, Int.reduceNeg, Int.reduceAdd, Int.reduceSub, Int.reduceMul, Int.reduceLE, Int.reduceLT, Int.reduceEq, Int.reduceToNat, reduceCtorEq, evL114x0, B114x0, Int.lt_irrefl]) (fun i cc x l K hc hx hi hr h0 h1 => by
        obtain ⟨a0, a1, a2, rfl, rfl⟩ := purR_Value hr
        have hs := AllU_at hb2 hx
        have hm : szR fdValue [.int a0, .int a1, .str a2] l ≤ l := szR_le (by decide) h0 h1
        have he := run_szValue d a0 a1 a2  l hs h0 h1
        generalize szR fdValue [.int a0, .int a1, .str a2] l = r at he hm ⊢
        rw [LoopS_eq]
        by_cases e : r < 0
        · refine .inl ⟨e, .int .i64 r, ?_⟩
          simp -implicitDefEqProofs (disch := omega) only [go_sem, Nat.reduceBEq, Nat.reduceAdd, Nat.reduceSub, Nat.reduceMul, Nat.reduceLeDiff, Nat.reduceEqDiff, Nat.reduceLT, Int.reduceNeg, Int.reduceAdd, Int.reduceSub, Int.reduceMul, Int.reduceLE, Int.reduceLT, Int.reduceEq, Int.reduceToNat, reduceCtorEq, evL114x0, B114x0, hi, hc, he, e, IntWalk.i64_in]
        · refine .inr ⟨by omega, hm, ?_⟩
          simp -implicitDefEqProofs (disch := omega) only [go_sem, Nat.reduceBEq, Nat.reduceAdd, Nat.reduceSub, Nat.reduceMul, Nat.reduceLeDiff, Nat.reduceEqDiff, Nat.reduceLT, Int.reduceNeg, Int.reduceAdd, Int.reduceSub, Int.reduceMul, Int.reduceLE, Int.reduceLT, Int.reduceEq, Int.reduceToNat, reduceCtorEq, evL114x0, B114x0, hi, hc, he, e, IntWalk.i64_in]) (l := l - cont.length) (by omega) (by omega) 1099511627775 (by omega)
    rw [if_neg e]
    simp -implicitDefEqProofs (disch := omega) only [go_sem, Nat.reduceBEq, Nat.reduceAdd, Nat.reduceSub, Nat.reduceMul, Nat.reduceLeDiff, Nat.reduceEqDiff, Nat.reduceLT, Int.reduceNeg, Int.reduceAdd, Int.reduceSub, Int.reduceMul, Int.reduceLE, Int.reduceLT, Int.reduceEq, Int.reduceToNat, reduceCtorEq, IntWalk.i64_in, e]
    rcases hlp with ⟨s1, v, s2⟩ | ⟨s1, s2⟩
    · rw [s2, szZ_neg (by omega) s1]
      simp -implicitDefEqProofs only [go_sem, Nat.reduceBEq, Nat.reduceAdd, Nat.reduceSub, Nat.reduceMul, Nat.reduceLeDiff, Nat.reduceEqDiff, Nat.reduceLT, Int.reduceNeg, Int.reduceAdd, Int.reduceSub, Int.reduceMul, Int.reduceLE, Int.reduceLT, Int.reduceEq, Int.reduceToNat, reduceCtorEq]
    · rw [s2]
      simp -implicitDefEqProofs only [go_sem, Nat.reduceBEq, Nat.reduceAdd, Nat.reduceSub, Nat.reduceMul, Nat.reduceLeDiff, Nat.reduceEqDiff, Nat.reduceLT, Int.reduceNeg, Int.reduceAdd, Int.reduceSub, Int.reduceMul, Int.reduceLE, Int.reduceLT, Int.reduceEq, Int.reduceToNat, reduceCtorEq]
-- find131
theorem run_toValue (d : Nat) (h : Heap) (a0 : Int) (a1 : Int) (a2 : ByteArray) : callX (runD tab noExt (d + 1)) h 0 131 [.agg [.int .i64 a0, .int .i64 a1, .str a2]] = some (.agg [.int .i64 a0, .int .i64 a1, .str a2], h) := by
  simp only [callX, callO, pureDAs, mapO, pureDA, pureD, deepest, Option.map_some]
  rw [runD_eq find131 _ _ _ (by simp)]
  simp -implicitDefEqProofs (disch := omega) only [go_sem, Nat.reduceBEq, Nat.reduceAdd, Nat.reduceSub, Nat.reduceMul, Nat.reduceLeDiff, Nat.reduceEqDiff, Nat.reduceLT, Int.reduceNeg, Int.reduceAdd, Int.reduceSub, Int.reduceMul, Int.reduceLE, Int.reduceLT, Int.reduceEq, Int.reduceToNat, reduceCtorEq, BackO]
-- find115
theorem run_toValueS (d : Nat) : ToOK (d + 2) 115 fdValue := by
  intro p xs hp hx hb
  obtain ⟨cl, cont, rfl, hz⟩ := purS_Value hp
  have hl := Zip2_len hz
  rw [runD_eq find115 _ _ _ (by simp)]
  obtain ⟨h', r, e1, e2, e3⟩ := to_loop (run := runD tab noExt (d + 1)) (draw := drawI (runD tab noExt (d + 1))) (c := L115x0) (zero := [.int .i64 0, .int .i64 0, .str ⟨#[]⟩]) (cl := cl) (sz := 3) hz (fun h K => by
        rw [LoopK_eq]
        simp -implicitDefEqProofs only [go_sem, Nat.reduceBEq, Nat.reduceAdd, Nat.reduceSub, Nat.reduceMul, Nat.reduceLeDiff, Nat.reduceEqDiff, Nat.reduceLT, Int.reduceNeg, Int.reduceAdd, Int.reduceSub, Int.reduceMul, Int.reduceLE, Int.reduceLT, Int.reduceEq, Int.reduceToNat, reduceCtorEq, evL115x0, B115x0, Int.lt_irrefl]) (fun i cc x h C K hc hx hi hr hh hC hCl => by
        obtain ⟨a0, a1, a2, rfl, rfl⟩ := purR_Value hr
        have hi' : i < C.length := by omega
        have hi2 : i < cont.length := by omega
        have hh' : h[0]? = some (.rows 0 3 C) := hh
        have h0 : 0 < h.length := (List.getElem?_eq_some_iff.1 hh).1
        have he := run_toValue d h a0 a1 a2
        refine ⟨h.set 0 (.rows 0 3 (C.set i [.int .i64 a0, .int .i64 a1, .str a2])), _, [], ?_, by rw [List.getElem?_set_self h0]; rfl, ownR_mk_Value _ a0 a1 a2, List.nodup_nil, (fun j hj => by cases hj), (fun j hj _ => by rw [List.getElem?_set_ne (Ne.symm hj)]), by simp⟩
        rw [LoopK_eq]
        simp -implicitDefEqProofs (disch := omega) only [go_sem, Nat.reduceBEq, Nat.reduceAdd, Nat.reduceSub, Nat.reduceMul, Nat.reduceLeDiff, Nat.reduceEqDiff, Nat.reduceLT, Int.reduceNeg, Int.reduceAdd, Int.reduceSub, Int.reduceMul, Int.reduceLE, Int.reduceLT, Int.reduceEq, Int.reduceToNat, reduceCtorEq, evL115x0, B115x0, hi, hi2, hc, he, hh', hC, IntWalk.i64_in, IntWalk.u8_in]) (h := [.rows 0 3 (List.replicate cont.length [.int .i64 0, .int .i64 0, .str ⟨#[]⟩])]) rfl 1099511627775 (by omega)
  have k1 : ((cont.length : Int) < 4294967296) = True := eq_true (by omega)
  simp -implicitDefEqProofs (disch := omega) only [go_sem, Nat.reduceBEq, Nat.reduceAdd, Nat.reduceSub, Nat.reduceMul, Nat.reduceLeDiff, Nat.reduceEqDiff, Nat.reduceLT, Int.reduceNeg, Int.reduceAdd, Int.reduceSub, Int.reduceMul, Int.reduceLE, Int.reduceLT, Int.reduceEq, Int.reduceToNat, reduceCtorEq, small, k1]
  rw [e1]
  simp -implicitDefEqProofs only [go_sem, Nat.reduceBEq, Nat.reduceAdd, Nat.reduceSub, Nat.reduceMul, Nat.reduceLeDiff, Nat.reduceEqDiff, Nat.reduceLT, Int.reduceNeg, Int.reduceAdd, Int.reduceSub, Int.reduceMul, Int.reduceLE, Int.reduceLT, Int.reduceEq, Int.reduceToNat, reduceCtorEq]
  exact ⟨_, _, _, rfl, e2, e3⟩
-- find132
theorem run_eqValue (d : Nat) (a0 : Int) (a1 : Int) (a2 : ByteArray)  : retP (runD tab noExt (d + 1)) 132 [.agg [.int .i64 a0, .int .i64 a1, .str a2], .agg [.int .i64 a0, .int .i64 a1, .str a2]] = some [.bool true] := by
  rw [retP, runD_eq find132 _ _ _ (by simp)]
  simp -implicitDefEqProofs (disch := omega) only [go_sem, Nat.reduceBEq, Nat.reduceAdd, Nat.reduceSub, Nat.reduceMul, Nat.reduceLeDiff, Nat.reduceEqDiff, Nat.reduceLT, Int.reduceNeg, Int.reduceAdd, Int.reduceSub, Int.reduceMul, Int.reduceLE, Int.reduceLT, Int.reduceEq, Int.reduceToNat, reduceCtorEq]
-- find116
theorem run_eqValueS (d : Nat) : EqOK (d + 2) 116 fdValue := by
  intro p q xs hp hq hb
  obtain ⟨cl, cont, rfl, hz⟩ := purS_Value hp
  obtain ⟨cl', cont', rfl, hz'⟩ := purS_Value hq
  simp only [LenF, big] at hb
  have hl := Zip2_len hz
  have hl' := Zip2_len hz'
  rw [retP, runD_eq find116 _ _ _ (by simp)]
  have hlp := eq_loop (run := runD tab noExt (d + 1)) (draw := drawI (runD tab noExt (d + 1))) (c := L116x0) (n0 := 0) (cl := cl) (cl' := cl') (sz := 3) hz hz' (fun K => by
        rw [LoopS_eq, ← hl]
        simp -implicitDefEqProofs only [go_sem, Nat.reduceBEq, Nat.reduceAdd, Nat.reduceSub, Nat.reduceMul, Nat.reduceLeDiff, Nat.reduceEqDiff, Nat.reduceLT, Int.reduceNeg, Int.reduceAdd, Int.reduceSub, Int.reduceMul, Int.reduceLE, Int.reduceLT, Int.reduceEq, Int.reduceToNat, reduceCtorEq, evL116x0, B116x0, Int.lt_irrefl]) (fun i cc cc' x K hc hc' hx hi hr hr' => by
        obtain ⟨a0, a1, a2, rfl, rfl⟩ := purR_Value hr
        obtain ⟨b0, b1, b2, rfl, e⟩ := purR_Value hr'
        simp only [List.cons.injEq, U.int.injEq, U.bool.injEq, U.str.injEq, U.sub.injEq, and_true] at e
        obtain ⟨rfl, rfl, rfl⟩ := e
        have he := run_eqValue d a0 a1 a2 
        rw [LoopS_eq]
        simp -implicitDefEqProofs (disch := omega) only [go_sem, Nat.reduceBEq, Nat.reduceAdd, Nat.reduceSub, Nat.reduceMul, Nat.reduceLeDiff, Nat.reduceEqDiff, Nat.reduceLT, Int.reduceNeg, Int.reduceAdd, Int.reduceSub, Int.reduceMul, Int.reduceLE, Int.reduceLT, Int.reduceEq, Int.reduceToNat, reduceCtorEq, evL116x0, B116x0, evC_draw, evD116x0, E116x0, hi, hc, hc', he, IntWalk.i64_in]) 1099511627775 (by omega)
  simp -implicitDefEqProofs (disch := omega) only [go_sem, Nat.reduceBEq, Nat.reduceAdd, Nat.reduceSub, Nat.reduceMul, Nat.reduceLeDiff, Nat.reduceEqDiff, Nat.reduceLT, Int.reduceNeg, Int.reduceAdd, Int.reduceSub, Int.reduceMul, Int.reduceLE, Int.reduceLT, Int.reduceEq, Int.reduceToNat, reduceCtorEq, hl, hl']
  rw [hlp]
  simp -implicitDefEqProofs only [go_sem, Nat.reduceBEq, Nat.reduceAdd, Nat.reduceSub, Nat.reduceMul, Nat.reduceLeDiff, Nat.reduceEqDiff, Nat.reduceLT, Int.reduceNeg, Int.reduceAdd, Int.reduceSub, Int.reduceMul, Int.reduceLE, Int.reduceLT, Int.reduceEq, Int.reduceToNat, reduceCtorEq]
-- find118
theorem run_heldValueS (d : Nat) : HeldOK (d + 2) 118 fdValue := by
  intro p xs k k' hp hh h0 h1 hb
  obtain ⟨cl, cont, rfl, hz⟩ := purS_Value hp
  simp only [LenF, big] at hb
  simp only [HeldF] at hh
  obtain ⟨xs', e, hh⟩ := hh
  injection e with e
  subst e
  have hl := Zip2_len hz
  rw [retP, runD_eq find118 _ _ _ (by simp)]
  have hlp := held_loop (run := runD tab noExt (d + 1)) (draw := drawI (runD tab noExt (d + 1))) (c := L118x0) (n0 := 0) (R := fun c x => PurR fdValue c x ∧ LenR big big fdValue x) (cl := cl) (sz := 3) (xs := xs) (cont := cont) (Zip2_len2 hz hb.2) (fun x k k' h => HeldR_le fdValue h) (fun k K => by
        rw [LoopS_eq]
        simp -implicitDefEqProofs only [go_sem, Nat.reduceBEq, Nat.reduceAdd, Nat.reduceSub, Nat.reduceMul, Nat.reduceLeDiff, Nat.reduceEqDiff, Nat.reduceLT, Int.reduceNeg, Int.reduceAdd, Int.reduceSub, Int.reduceMul, Int.reduceLE, Int.reduceLT, Int.reduceEq, Int.reduceToNat, reduceCtorEq, evL118x0, B118x0, Int.lt_irrefl]) (fun i cc x k m K hc hx hi hr hhr h0 h1 => by
        obtain ⟨a0, a1, a2, rfl, rfl⟩ := purR_Value hr.1
        have hle := HeldR_le _ hhr
        obtain ⟨e, em⟩ := heldR_Value hhr h0 h1
        subst em
        simp only [List.cons.injEq, U.int.injEq, U.bool.injEq, U.str.injEq, U.sub.injEq, and_true] at e
        obtain ⟨rfl, rfl, rfl⟩ := e
        have ht := fun j (g0 : 0 ≤ j) (g1 : j ≤ 4611686018427387904) => run_markText d j g0 g1
        rw [LoopS_eq]
        simp -implicitDefEqProofs (disch := omega) only [go_sem, Nat.reduceBEq, Nat.reduceAdd, Nat.reduceSub, Nat.reduceMul, Nat.reduceLeDiff, Nat.reduceEqDiff, Nat.reduceLT, Int.reduceNeg, Int.reduceAdd, Int.reduceSub, Int.reduceMul, Int.reduceLE, Int.reduceLT, Int.reduceEq, Int.reduceToNat, reduceCtorEq, evL118x0, B118x0, evC_draw, evD118x0, E118x0, hi, hc, ht, IntWalk.i64_in, IntWalk.u8_in, Int.add_assoc]) hh h0 h1 1099511627775 (by omega)
  simp -implicitDefEqProofs (disch := omega) only [go_sem, Nat.reduceBEq, Nat.reduceAdd, Nat.reduceSub, Nat.reduceMul, Nat.reduceLeDiff, Nat.reduceEqDiff, Nat.reduceLT, Int.reduceNeg, Int.reduceAdd, Int.reduceSub, Int.reduceMul, Int.reduceLE, Int.reduceLT, Int.reduceEq, Int.reduceToNat, reduceCtorEq]
  rw [hlp]
  simp -implicitDefEqProofs only [go_sem, Nat.reduceBEq, Nat.reduceAdd, Nat.reduceSub, Nat.reduceMul, Nat.reduceLeDiff, Nat.reduceEqDiff, Nat.reduceLT, Int.reduceNeg, Int.reduceAdd, Int.reduceSub, Int.reduceMul, Int.reduceLE, Int.reduceLT, Int.reduceEq, Int.reduceToNat, reduceCtorEq]
-- find117
theorem run_markValueS (d : Nat) : MarkOK (d + 2) 117 fdValue := by
  intro h v xs ids k ho hn hb h0 hk
  simp only [cntF] at hk ⊢
  simp only [LenF] at hb
  have ho' := ho
  simp only [OwnF] at ho
  obtain ⟨xs', e, ⟨cl, rfl, rfl, rfl⟩ | ⟨id, st, clip, cont, r, rfl, e2, rfl, ho⟩⟩ := ho <;> injection e with e <;> subst e
  · refine ⟨h, [], ?_, ho', by simp only [HeldF]; exact ⟨[], rfl, by simp [HeldZ, sumU]⟩, by simp [LenF, AllU], fun _ _ => rfl, rfl⟩
    simp only [callX, callK]
    rw [runD_eq find117 _ _ _ (by simp)]
    simp -implicitDefEqProofs (disch := omega) only [go_sem, Nat.reduceBEq, Nat.reduceAdd, Nat.reduceSub, Nat.reduceMul, Nat.reduceLeDiff, Nat.reduceEqDiff, Nat.reduceLT, Int.reduceNeg, Int.reduceAdd, Int.reduceSub, Int.reduceMul, Int.reduceLE, Int.reduceLT, Int.reduceEq, Int.reduceToNat, reduceCtorEq]
    rw [LoopK_eq]
    simp -implicitDefEqProofs only [go_sem, Nat.reduceBEq, Nat.reduceAdd, Nat.reduceSub, Nat.reduceMul, Nat.reduceLeDiff, Nat.reduceEqDiff, Nat.reduceLT, Int.reduceNeg, Int.reduceAdd, Int.reduceSub, Int.reduceMul, Int.reduceLE, Int.reduceLT, Int.reduceEq, Int.reduceToNat, reduceCtorEq, evL117x0, B117x0, Int.lt_irrefl, resOk, sumU, Int.add_zero]
  · have hl := Zip3_len ho
    have hlb : cont.length ≤ 1099511627775 := by have := hb.1; unfold big at this; omega
    obtain ⟨h', ys, f1, f2, f3, f4, f5, f6, f7⟩ := mark_loop (run := runD tab noExt (d + 1)) (draw := drawI (runD tab noExt (d + 1))) (c := L117x0) (fs := fdValue) (id := id) (st := st) (n := cont.length) (clip := clip) (xs := xs) (h := h) (cont := cont) (r := r) (k := k) (fun h k K => by
        rw [LoopK_eq]
        simp -implicitDefEqProofs only [go_sem, Nat.reduceBEq, Nat.reduceAdd, Nat.reduceSub, Nat.reduceMul, Nat.reduceLeDiff, Nat.reduceEqDiff, Nat.reduceLT, Int.reduceNeg, Int.reduceAdd, Int.reduceSub, Int.reduceMul, Int.reduceLE, Int.reduceLT, Int.reduceEq, Int.reduceToNat, reduceCtorEq, evL117x0, B117x0, Int.lt_irrefl]) (fun i h C cc x a k K hi hh hCl hC hr hx hid hnd h0 hk => by
        obtain ⟨a0, a1, a2, rfl, rfl, rfl⟩ := ownR_Value hr
        have hcnt : cntR fdValue [.int a0, .int a1, .str a2] = 1 + 1 + 1 := by simp only [fdValue, cntR, cntF_int, cntF_bool, cntF_str] <;> omega
        rw [hcnt] at hk ⊢
        have hh' : h[id]? = some (.rows st 3 C) := hh
        have hidl : id < h.length := (List.getElem?_eq_some_iff.1 hh').1
        have hi' : i < C.length := by omega
        have hi2 : i < cont.length := by omega
        have ht := fun j (g0 : 0 ≤ j) (g1 : j ≤ 4611686018427387904) => run_markText d j g0 g1
        refine ⟨h.set id (.rows st 3 (C.set i [.int .i64 k, .int .i64 (k + 1), .str (txt (k + 2))])), [.int .i64 k, .int .i64 (k + 1), .str (txt (k + 2))], [.int k, .int (k + 1), .str (txt (k + 2))], ?_, by rw [List.getElem?_set_self hidl]; rfl, ownR_mk_Value _ (k) ((k + 1)) ((txt (k + 2))), ?_, ⟨trivial, trivial, txt_big _, trivial⟩, (fun j hj hj2 => by rw [List.getElem?_set_ne (Ne.symm hj)]), by simp⟩
        · rw [LoopK_eq]
          simp -implicitDefEqProofs (disch := omega) only [go_sem, Nat.reduceBEq, Nat.reduceAdd, Nat.reduceSub, Nat.reduceMul, Nat.reduceLeDiff, Nat.reduceEqDiff, Nat.reduceLT, Int.reduceNeg, Int.reduceAdd, Int.reduceSub, Int.reduceMul, Int.reduceLE, Int.reduceLT, Int.reduceEq, Int.reduceToNat, reduceCtorEq, evL117x0, B117x0, hi, hi2, hh', hC, ht, IntWalk.i64_in, IntWalk.u8_in, refs, refC, frzs, List.contains_nil, List.getElem?_set_self, List.length_set, List.set_set, Int.add_assoc, Int.natCast_add, Int.natCast_one, Int.cast_ofNat_Int, pures, okN, hidl, hi']
        · have hq := heldR_mk_Value k h0 (by omega)
          first | exact hq | (refine cast ?_ hq; simp only [Int.add_assoc, Int.natCast_add, Int.natCast_one, Int.cast_ofNat_Int, Int.reduceAdd]) | (simpa only [Int.add_assoc, Int.natCast_add, Int.natCast_one, Int.cast_ofNat_Int, Int.reduceAdd] using hq)
        ) rfl e2 ho hn hb.2 h0 hk 1099511627775 (by omega)
    refine ⟨h', ys, ?_, f2, by simp only [HeldF]; exact ⟨ys, rfl, f3⟩, by simp only [LenF]; exact ⟨by omega, f5⟩, f6, f7⟩
    simp only [callX, callK]
    rw [runD_eq find117 _ _ _ (by simp)]
    simp -implicitDefEqProofs (disch := omega) only [go_sem, Nat.reduceBEq, Nat.reduceAdd, Nat.reduceSub, Nat.reduceMul, Nat.reduceLeDiff, Nat.reduceEqDiff, Nat.reduceLT, Int.reduceNeg, Int.reduceAdd, Int.reduceSub, Int.reduceMul, Int.reduceLE, Int.reduceLT, Int.reduceEq, Int.reduceToNat, reduceCtorEq]
    rw [f1]
    simp -implicitDefEqProofs only [go_sem, Nat.reduceBEq, Nat.reduceAdd, Nat.reduceSub, Nat.reduceMul, Nat.reduceLeDiff, Nat.reduceEqDiff, Nat.reduceLT, Int.reduceNeg, Int.reduceAdd, Int.reduceSub, Int.reduceMul, Int.reduceLE, Int.reduceLT, Int.reduceEq, Int.reduceToNat, reduceCtorEq, resOk]
/-! ### ValueS -/
def fdValueS : List Fd := [.sub fdValue]
theorem purR_ValueS {c : List V} {x : List U} (h : PurR fdValueS c x) : ∃ (p0 : V) (y0 : List (List U)), c = [p0] ∧ x = [.sub y0] ∧ PurF (.sub fdValue) p0 (.sub y0) := by
  simp only [fdValueS, PurR] at h
  obtain ⟨v0, _, u0, _, rfl, rfl, g0, rfl, rfl⟩ := h
  have g0' := g0
  simp only [PurF] at g0'
  obtain ⟨_, _, y0, _, rfl, _⟩ := g0'
  exact ⟨v0, y0, rfl, rfl, g0⟩
theorem purR_mk_ValueS {p0 : V} {y0 : List (List U)} (g0 : PurF (.sub fdValue) p0 (.sub y0)) : PurR fdValueS [p0] [.sub y0] := by
  simp only [fdValueS, PurR]
  exact ⟨_, _, _, _, rfl, rfl, g0, rfl, rfl⟩
theorem purS_ValueS {p : V} {xs : List (List U)} (hp : PurF (.sub fdValueS) p (.sub xs)) : ∃ cl cont, p = .sl cl 1 cont ∧ Zip2 (PurR fdValueS) cont xs := by
  simp only [PurF] at hp
  obtain ⟨cl, cont, xs', rfl, e, hz⟩ := hp
  injection e with e
  subst e
  exact ⟨cl, cont, rfl, hz⟩
theorem ownR_ValueS {h : Heap} {c : List V} {x : List U} {i : List Nat} (ho : OwnR h fdValueS c x i) : ∃ (p0 : V) (y0 : List (List U)) (i0 : List Nat), c = [p0] ∧ x = [.sub y0] ∧ i = i0 ∧ OwnF h (.sub fdValue) p0 (.sub y0) i0 := by
  simp only [fdValueS, OwnR] at ho
  obtain ⟨v0, _, u0, _, i0, _, rfl, rfl, rfl, g0, rfl, rfl, rfl⟩ := ho
  have g0' := g0
  simp only [OwnF] at g0'
  obtain ⟨y0, rfl, _⟩ := g0'
  exact ⟨v0, y0, i0, rfl, rfl, by simp, g0⟩
theorem ownR_mk_ValueS {h : Heap} {p0 : V} {y0 : List (List U)} {i0 : List Nat} (g0 : OwnF h (.sub fdValue) p0 (.sub y0) i0) : OwnR h fdValueS [p0] [.sub y0] (i0) := by
  simp only [fdValueS, OwnR]
  exact ⟨_, _, _, _, i0, [], rfl, rfl, (by simp), g0, rfl, rfl, rfl⟩
theorem heldR_ValueS {x : List U} {k k' : Int} (h : HeldR fdValueS x k k') (h0 : 0 ≤ k) (h1 : k' ≤ 4611686018427387904) : ∃ (y0 : List (List U)) (m0 : Int), x = [.sub y0] ∧ HeldF (.sub fdValue) (.sub y0) k m0 ∧ k' = m0 := by
  simp only [fdValueS, HeldR] at h
  obtain ⟨u0, _, m0, rfl, g0, rfl, ek⟩ := h
  have l0 := HeldF_le _ g0
  have g0' := g0
  simp only [HeldF] at g0'
  obtain ⟨y0, rfl, _⟩ := g0'
  exact ⟨y0, m0, by simp (disch := omega) only [IntWalk.i64_in, Int.add_assoc, Int.reduceAdd], by simpa only [Int.add_assoc, Int.reduceAdd] using g0, by simp only [ek, Int.add_assoc, Int.reduceAdd]⟩
theorem heldR_mk_ValueS (k : Int) (y0 : List (List U)) (m0 : Int) (g0 : HeldF (.sub fdValue) (.sub y0) k m0) (h0 : 0 ≤ k) (h1 : m0 ≤ 4611686018427387904) : HeldR fdValueS [.sub y0] k (m0) := by
  have l0 := HeldF_le _ g0
  simp only [fdValueS, HeldR]
  exact ⟨_, _, _, rfl, g0, rfl, by simp only [Int.add_assoc, Int.reduceAdd]⟩
-- find54
theorem run_szValueSS (d : Nat) {p : V} {xs : List (List U)} (l : Int) (hp : PurF (.sub fdValueS) p (.sub xs)) (hb : LenF 9223372036854775807 9223372036854775807 (.sub fdValueS) (.sub xs)) (h0 : 0 ≤ l) (h1 : l ≤ 1048576) : retP (runD tab noExt (d + 3)) 54 [p, .int .i64 l] = some [.int .i64 (szF (.sub fdValueS) (.sub xs) l)] := by
  obtain ⟨cl, cont, rfl, hz⟩ := purS_ValueS hp
  simp only [LenF] at hb
  obtain ⟨hb1, hb2⟩ := hb
  have hl := Zip2_len hz
  rw [retP, runD_eq find54 _ _ _ (by simp)]
  rw [szF, ← hl]
  by_cases e : l - (cont.length : Int) < 0
  · simp -implicitDefEqProofs (disch := omega) only [go_sem, Nat.reduceBEq, Nat.reduceAdd, Nat.reduceSub, Nat.reduceMul, Nat.reduceLeDiff, Nat.reduceEqDiff, Nat.reduceLT, Int.reduceNeg, Int.reduceAdd, Int.reduceSub, Int.reduceMul, Int.reduceLE, Int.reduceLT, Int.reduceEq, Int.reduceToNat, reduceCtorEq, IntWalk.i64_in, e, if_true]
  · have hlp := sz_loop (run := runD tab noExt (d + 2)) (draw := drawI (runD tab noExt (d + 2))) (c := L54x0) (n0 := 0) (SR := szR fdValueS) (cl := cl) (sz := 1) hz (fun l K => by
        rw [LoopS_eq]
        simp -implicitDefEqProofs only [go_sem, Nat.reduceBEq, Nat.reduceAdd, Nat.reduceSub, Nat.reduceMul, Nat.reduceLeDiff, Nat.reduceEqDiff, Nat.reduceLT, Int.reduceNeg, Int.reduceAdd, Int.reduceSub, Int.reduceMul, Int.reduceLE, Int.reduceLT, Int.reduceEq, Int.reduceToNat, reduceCtorEq, evL54x0, B54x0, Int.lt_irrefl]) (fun i cc x l K hc hx hi hr h0 h1 => by
        obtain ⟨p0, y0, rfl, rfl, g0⟩ := purR_ValueS hr
        have hs := AllU_at hb2 hx
        have hm : szR fdValueS [.sub y0] l ≤ l := szR_le (by decide) h0 h1
        simp only [LenR, fdValueS] at hs
        have he0 := run_szValueS d l g0 hs.1 h0 h1
        have he : retP (runD tab noExt (d + 2)) 114 [p0, .int .i64 l] = some [.int .i64 (szF (.sub fdValue) (.sub y0) l)] := he0
        have hq : szR fdValueS [.sub y0] l = if szF (.sub fdValue) (.sub y0) l < 0 then -1 else szF (.sub fdValue) (.sub y0) l := by simp only [fdValueS, szR]
        obtain ⟨cl0, cont0, rfl, hz0⟩ := purS_Value g0
        clear he0
        generalize szF (.sub fdValue) (.sub y0) l = r at he hq
        rw [LoopS_eq]
        by_cases e : r < 0
        · rw [if_pos e] at hq
          refine .inl ⟨by omega, .int .i64 r, ?_⟩
          simp -implicitDefEqProofs (disch := omega) only [go_sem, Nat.reduceBEq, Nat.reduceAdd, Nat.reduceSub, Nat.reduceMul, Nat.reduceLeDiff, Nat.reduceEqDiff, Nat.reduceLT, Int.reduceNeg, Int.reduceAdd, Int.reduceSub, Int.reduceMul, Int.reduceLE, Int.reduceLT, Int.reduceEq, Int.reduceToNat, reduceCtorEq, evL54x0, B54x0, hi, hc, he, e, IntWalk.i64_in]
        · rw [if_neg e] at hq
          rw [hq] at hm ⊢
          refine .inr ⟨by omega, hm, ?_⟩
          simp -implicitDefEqProofs (disch := omega) only [go_sem, Nat.reduceBEq, Nat.reduceAdd, Nat.reduceSub, Nat.reduceMul, Nat.reduceLeDiff, Nat.reduceEqDiff, Nat.reduceLT, Int.reduceNeg, Int.reduceAdd, Int.reduceSub, Int.reduceMul, Int.reduceLE, Int.reduceLT, Int.reduceEq, Int.reduceToNat, reduceCtorEq, evL54x0, B54x0, hi, hc, he, e, IntWalk.i64_in]) (l := l - cont.length) (by omega) (by omega) 1099511627775 (by omega)
    rw [if_neg e]
    simp -implicitDefEqProofs (disch := omega) only [go_sem, Nat.reduceBEq, Nat.reduceAdd, Nat.reduceSub, Nat.reduceMul, Nat.reduceLeDiff, Nat.reduceEqDiff, Nat.reduceLT, Int.reduceNeg, Int.reduceAdd, Int.reduceSub, Int.reduceMul, Int.reduceLE, Int.reduceLT, Int.reduceEq, Int.reduceToNat, reduceCtorEq, IntWalk.i64_in, e]
    rcases hlp with ⟨s1, v, s2⟩ | ⟨s1, s2⟩
    · rw [s2, szZ_neg (by omega) s1]
      simp -implicitDefEqProofs only [go_sem, Nat.reduceBEq, Nat.reduceAdd, Nat.reduceSub, Nat.reduceMul, Nat.reduceLeDiff, Nat.reduceEqDiff, Nat.reduceLT, Int.reduceNeg, Int.reduceAdd, Int.reduceSub, Int.reduceMul, Int.reduceLE, Int.reduceLT, Int.reduceEq, Int.reduceToNat, reduceCtorEq]
    · rw [s2]
      simp -implicitDefEqProofs only [go_sem, Nat.reduceBEq, Nat.reduceAdd, Nat.reduceSub, Nat.reduceMul, Nat.reduceLeDiff, Nat.reduceEqDiff, Nat.reduceLT, Int.reduceNeg, Int.reduceAdd, Int.reduceSub, Int.reduceMul, Int.reduceLE, Int.reduceLT, Int.reduceEq, Int.reduceToNat, reduceCtorEq]
-- find56
theorem run_toValueSS (d : Nat) : ToOK (d + 3) 56 fdValueS := by
  intro p xs hp hx hb
  obtain ⟨cl, cont, rfl, hz⟩ := purS_ValueS hp
  have hl := Zip2_len hz
  rw [runD_eq find56 _ _ _ (by simp)]
  obtain ⟨h', r, e1, e2, e3⟩ := to_loop (run := runD tab noExt (d + 2)) (draw := drawI (runD tab noExt (d + 2))) (c := L56x0) (zero := [.sl true 3 []]) (cl := cl) (sz := 1) hz (fun h K => by
        rw [LoopK_eq]
        simp -implicitDefEqProofs only [go_sem, Nat.reduceBEq, Nat.reduceAdd, Nat.reduceSub, Nat.reduceMul, Nat.reduceLeDiff, Nat.reduceEqDiff, Nat.reduceLT, Int.reduceNeg, Int.reduceAdd, Int.reduceSub, Int.reduceMul, Int.reduceLE, Int.reduceLT, Int.reduceEq, Int.reduceToNat, reduceCtorEq, evL56x0, B56x0, Int.lt_irrefl]) (fun i cc x h C K hc hx hi hr hh hC hCl => by
        obtain ⟨p0, y0, rfl, rfl, g0⟩ := purR_ValueS hr
        have hi' : i < C.length := by omega
        have hi2 : i < cont.length := by omega
        have hh' : h[0]? = some (.nest 0 1 C) := hh
        have h0 : 0 < h.length := (List.getElem?_eq_some_iff.1 hh).1
        have hs := AllU_at hb hx
        simp only [LenR, LenF, fdValueS] at hs
        obtain ⟨v0, hc0, i0, r0, o0, n0⟩ := run_toValueS d g0 hs.1.1 hs.1.2
        obtain ⟨w0, h1, a, c1, c2, c3, c4, c5, c6⟩ := own_call (h := h) (args := [p0]) (by simp only [pureDAs, mapO, pureDA_pur g0]) r0 o0 n0
        have h01 : 0 < h1.length := by omega
        have hh1 : h1[0]? = some (.nest 0 1 C) := (c5 0 h0).trans hh'
        have ha0 : 0 ∉ a := fun hm => by have := c4 0 hm; omega
        refine ⟨h1.set 0 (.nest 0 1 (C.set i [w0])), _, a, ?_, by rw [List.getElem?_set_self h01]; rfl, ownR_mk_ValueS (OwnF_frame _ c2 (fun j hj => by rw [List.getElem?_set_ne (by rintro rfl; exact ha0 hj)])), c3, c4, (fun j hj hlt => by rw [List.getElem?_set_ne (Ne.symm hj)]; exact c5 j hlt), by simpa using c6⟩
        rw [LoopK_eq]
        obtain ⟨cl0, cont0, rfl, hz0⟩ := purS_Value g0
        rcases own_cases c2 with ⟨k0, rfl⟩ | ⟨id0, st0, m0, k0, rfl⟩ <;> simp -implicitDefEqProofs (disch := omega) only [go_sem, Nat.reduceBEq, Nat.reduceAdd, Nat.reduceSub, Nat.reduceMul, Nat.reduceLeDiff, Nat.reduceEqDiff, Nat.reduceLT, Int.reduceNeg, Int.reduceAdd, Int.reduceSub, Int.reduceMul, Int.reduceLE, Int.reduceLT, Int.reduceEq, Int.reduceToNat, reduceCtorEq, evL56x0, B56x0, hi, hi2, hc, c1, hh1, hC, IntWalk.i64_in, okN]) (h := [.nest 0 1 (List.replicate cont.length [.sl true 3 []])]) rfl 1099511627775 (by omega)
  have k1 : ((cont.length : Int) < 4294967296) = True := eq_true (by omega)
  simp -implicitDefEqProofs (disch := omega) only [go_sem, Nat.reduceBEq, Nat.reduceAdd, Nat.reduceSub, Nat.reduceMul, Nat.reduceLeDiff, Nat.reduceEqDiff, Nat.reduceLT, Int.reduceNeg, Int.reduceAdd, Int.reduceSub, Int.reduceMul, Int.reduceLE, Int.reduceLT, Int.reduceEq, Int.reduceToNat, reduceCtorEq, small, k1]
  rw [e1]
  simp -implicitDefEqProofs only [go_sem, Nat.reduceBEq, Nat.reduceAdd, Nat.reduceSub, Nat.reduceMul, Nat.reduceLeDiff, Nat.reduceEqDiff, Nat.reduceLT, Int.reduceNeg, Int.reduceAdd, Int.reduceSub, Int.reduceMul, Int.reduceLE, Int.reduceLT, Int.reduceEq, Int.reduceToNat, reduceCtorEq]
  exact ⟨_, _, _, rfl, e2, e3⟩
-- find57
theorem run_eqValueSS (d : Nat) : EqOK (d + 3) 57 fdValueS := by
  intro p q xs hp hq hb
  obtain ⟨cl, cont, rfl, hz⟩ := purS_ValueS hp
  obtain ⟨cl', cont', rfl, hz'⟩ := purS_ValueS hq
  simp only [LenF, big] at hb
  have hl := Zip2_len hz
  have hl' := Zip2_len hz'
  rw [retP, runD_eq find57 _ _ _ (by simp)]
  have hlp := eq_loop (run := runD tab noExt (d + 2)) (draw := drawI (runD tab noExt (d + 2))) (c := L57x0) (n0 := 0) (cl := cl) (cl' := cl') (sz := 1) hz hz' (fun K => by
        rw [LoopS_eq, ← hl]
        simp -implicitDefEqProofs only [go_sem, Nat.reduceBEq, Nat.reduceAdd, Nat.reduceSub, Nat.reduceMul, Nat.reduceLeDiff, Nat.reduceEqDiff, Nat.reduceLT, Int.reduceNeg, Int.reduceAdd, Int.reduceSub, Int.reduceMul, Int.reduceLE, Int.reduceLT, Int.reduceEq, Int.reduceToNat, reduceCtorEq, evL57x0, B57x0, Int.lt_irrefl]) (fun i cc cc' x K hc hc' hx hi hr hr' => by
        obtain ⟨p0, y0, rfl, rfl, g0⟩ := purR_ValueS hr
        obtain ⟨p0q, y0q, rfl, e, q0⟩ := purR_ValueS hr'
        simp only [List.cons.injEq, U.int.injEq, U.bool.injEq, U.str.injEq, U.sub.injEq, and_true] at e
        subst e
        have hs := AllU_at hb.2 hx
        simp only [LenR, fdValueS] at hs
        have he := run_eqValueS d g0 q0 hs.1
        obtain ⟨cl0, ct0, rfl, hz0⟩ := purS_Value g0
        obtain ⟨cm0, cu0, rfl, hy0⟩ := purS_Value q0
        rw [LoopS_eq]
        simp -implicitDefEqProofs (disch := omega) only [go_sem, Nat.reduceBEq, Nat.reduceAdd, Nat.reduceSub, Nat.reduceMul, Nat.reduceLeDiff, Nat.reduceEqDiff, Nat.reduceLT, Int.reduceNeg, Int.reduceAdd, Int.reduceSub, Int.reduceMul, Int.reduceLE, Int.reduceLT, Int.reduceEq, Int.reduceToNat, reduceCtorEq, evL57x0, B57x0, evC_draw, evD57x0, E57x0, hi, hc, hc', he, IntWalk.i64_in]) 1099511627775 (by omega)
  simp -implicitDefEqProofs (disch := omega) only [go_sem, Nat.reduceBEq, Nat.reduceAdd, Nat.reduceSub, Nat.reduceMul, Nat.reduceLeDiff, Nat.reduceEqDiff, Nat.reduceLT, Int.reduceNeg, Int.reduceAdd, Int.reduceSub, Int.reduceMul, Int.reduceLE, Int.reduceLT, Int.reduceEq, Int.reduceToNat, reduceCtorEq, hl, hl']
  rw [hlp]
  simp -implicitDefEqProofs only [go_sem, Nat.reduceBEq, Nat.reduceAdd, Nat.reduceSub, Nat.reduceMul, Nat.reduceLeDiff, Nat.reduceEqDiff, Nat.reduceLT, Int.reduceNeg, Int.reduceAdd, Int.reduceSub, Int.reduceMul, Int.reduceLE, Int.reduceLT, Int.reduceEq, Int.reduceToNat, reduceCtorEq]
-- find59
theorem run_heldValueSS (d : Nat) : HeldOK (d + 3) 59 fdValueS := by
  intro p xs k k' hp hh h0 h1 hb
  obtain ⟨cl, cont, rfl, hz⟩ := purS_ValueS hp
  simp only [LenF, big] at hb
  simp only [HeldF] at hh
  obtain ⟨xs', e, hh⟩ := hh
  injection e with e
  subst e
  have hl := Zip2_len hz
  rw [retP, runD_eq find59 _ _ _ (by simp)]
  have hlp := held_loop (run := runD tab noExt (d + 2)) (draw := drawI (runD tab noExt (d + 2))) (c := L59x0) (n0 := 0) (R := fun c x => PurR fdValueS c x ∧ LenR big big fdValueS x) (cl := cl) (sz := 1) (xs := xs) (cont := cont) (Zip2_len2 hz hb.2) (fun x k k' h => HeldR_le fdValueS h) (fun k K => by
        rw [LoopS_eq]
        simp -implicitDefEqProofs only [go_sem, Nat.reduceBEq, Nat.reduceAdd, Nat.reduceSub, Nat.reduceMul, Nat.reduceLeDiff, Nat.reduceEqDiff, Nat.reduceLT, Int.reduceNeg, Int.reduceAdd, Int.reduceSub, Int.reduceMul, Int.reduceLE, Int.reduceLT, Int.reduceEq, Int.reduceToNat, reduceCtorEq, evL59x0, B59x0, Int.lt_irrefl]) (fun i cc x k m K hc hx hi hr hhr h0 h1 => by
        obtain ⟨p0, y0, rfl, rfl, g0⟩ := purR_ValueS hr.1
        have hle := HeldR_le _ hhr
        have hs := hr.2
        simp only [LenR, fdValueS] at hs
        obtain ⟨z0, m0, e, k0, em⟩ := heldR_ValueS hhr h0 h1
        rw [em]
        simp only [List.cons.injEq, U.int.injEq, U.bool.injEq, U.str.injEq, U.sub.injEq, and_true] at e
        subst e
        have l0 := HeldF_le _ k0
        have he0 := run_heldValueS d g0 k0 (by omega) (by omega) hs.1
        have f0 : (m0 < 0) = False := eq_false (by omega)
        obtain ⟨cl0, ct0, rfl, hz0⟩ := purS_Value g0
        rw [LoopS_eq]
        simp -implicitDefEqProofs (disch := omega) only [go_sem, Nat.reduceBEq, Nat.reduceAdd, Nat.reduceSub, Nat.reduceMul, Nat.reduceLeDiff, Nat.reduceEqDiff, Nat.reduceLT, Int.reduceNeg, Int.reduceAdd, Int.reduceSub, Int.reduceMul, Int.reduceLE, Int.reduceLT, Int.reduceEq, Int.reduceToNat, reduceCtorEq, evL59x0, B59x0, hi, hc, he0, f0, IntWalk.i64_in, IntWalk.u8_in, Int.add_assoc]) hh h0 h1 1099511627775 (by omega)
  simp -implicitDefEqProofs (disch := omega) only [go_sem, Nat.reduceBEq, Nat.reduceAdd, Nat.reduceSub, Nat.reduceMul, Nat.reduceLeDiff, Nat.reduceEqDiff, Nat.reduceLT, Int.reduceNeg, Int.reduceAdd, Int.reduceSub, Int.reduceMul, Int.reduceLE, Int.reduceLT, Int.reduceEq, Int.reduceToNat, reduceCtorEq]
  rw [hlp]
  simp -implicitDefEqProofs only [go_sem, Nat.reduceBEq, Nat.reduceAdd, Nat.reduceSub, Nat.reduceMul, Nat.reduceLeDiff, Nat.reduceEqDiff, Nat.reduceLT, Int.reduceNeg, Int.reduceAdd, Int.reduceSub, Int.reduceMul, Int.reduceLE, Int.reduceLT, Int.reduceEq, Int.reduceToNat, reduceCtorEq]
-- find58
theorem run_markValueSS (d : Nat) : MarkOK (d + 3) 58 fdValueS := by
  intro h v xs ids k ho hn hb h0 hk
  simp only [cntF] at hk ⊢
  simp only [LenF] at hb
  have ho' := ho
  simp only [OwnF] at ho
  obtain ⟨xs', e, ⟨cl, rfl, rfl, rfl⟩ | ⟨id, st, clip, cont, r, rfl, e2, rfl, ho⟩⟩ := ho <;> injection e with e <;> subst e
  · refine ⟨h, [], ?_, ho', by simp only [HeldF]; exact ⟨[], rfl, by simp [HeldZ, sumU]⟩, by simp [LenF, AllU], fun _ _ => rfl, rfl⟩
    simp only [callX, callK]
    rw [runD_eq find58 _ _ _ (by simp)]
    simp -implicitDefEqProofs (disch := omega) only [go_sem, Nat.reduceBEq, Nat.reduceAdd, Nat.reduceSub, Nat.reduceMul, Nat.reduceLeDiff, Nat.reduceEqDiff, Nat.reduceLT, Int.reduceNeg, Int.reduceAdd, Int.reduceSub, Int.reduceMul, Int.reduceLE, Int.reduceLT, Int.reduceEq, Int.reduceToNat, reduceCtorEq]
    rw [LoopK_eq]
    simp -implicitDefEqProofs only [go_sem, Nat.reduceBEq, Nat.reduceAdd, Nat.reduceSub, Nat.reduceMul, Nat.reduceLeDiff, Nat.reduceEqDiff, Nat.reduceLT, Int.reduceNeg, Int.reduceAdd, Int.reduceSub, Int.reduceMul, Int.reduceLE, Int.reduceLT, Int.reduceEq, Int.reduceToNat, reduceCtorEq, evL58x0, B58x0, Int.lt_irrefl, resOk, sumU, Int.add_zero]
  · have hl := Zip3_len ho
    have hlb : cont.length ≤ 1099511627775 := by have := hb.1; unfold big at this; omega
    obtain ⟨h', ys, f1, f2, f3, f4, f5, f6, f7⟩ := mark_loop (run := runD tab noExt (d + 2)) (draw := drawI (runD tab noExt (d + 2))) (c := L58x0) (fs := fdValueS) (id := id) (st := st) (n := cont.length) (clip := clip) (xs := xs) (h := h) (cont := cont) (r := r) (k := k) (fun h k K => by
        rw [LoopK_eq]
        simp -implicitDefEqProofs only [go_sem, Nat.reduceBEq, Nat.reduceAdd, Nat.reduceSub, Nat.reduceMul, Nat.reduceLeDiff, Nat.reduceEqDiff, Nat.reduceLT, Int.reduceNeg, Int.reduceAdd, Int.reduceSub, Int.reduceMul, Int.reduceLE, Int.reduceLT, Int.reduceEq, Int.reduceToNat, reduceCtorEq, evL58x0, B58x0, Int.lt_irrefl]) (fun i h C cc x a k K hi hh hCl hC hr hx hid hnd h0 hk => by
        obtain ⟨p0, y0, i0, rfl, rfl, rfl, g0⟩ := ownR_ValueS hr
        have hcnt : cntR fdValueS [.sub y0] = cntF (.sub fdValue) (.sub y0) := by simp only [fdValueS, cntR, cntF_int, cntF_bool, cntF_str] <;> omega
        have hct0 : 0 ≤ cntF (.sub fdValue) (.sub y0) := Nat.zero_le _
        rw [hcnt] at hk ⊢
        generalize hcn0 : cntF (.sub fdValue) (.sub y0) = N0 at hk hct0 hcnt ⊢
        have hh' : h[id]? = some (.nest st 1 C) := hh
        have hidl : id < h.length := (List.getElem?_eq_some_iff.1 hh').1
        have hi' : i < C.length := by omega
        have hi2 : i < cont.length := by omega
        have hs := hx
        simp only [LenR, fdValueS] at hs
        obtain ⟨ha0, z0, m01, m02, m03, m04, m05, m06⟩ := run_markValueS d (h := h) (k := k) (OwnF_frame _ g0 (fun j hj => rfl)) hnd hs.1 (by omega) (by rw [hcn0]; omega)
        rw [hcn0] at m01 m03
        have hr0 : ha0[id]? = some (.nest st 1 (C)) := (m05 id hid).trans hh'
        have hl0 : id < ha0.length := (List.getElem?_eq_some_iff.1 hr0).1
        refine ⟨ha0, [p0], [.sub z0], ?_, by rw [hr0]; first | rfl | (rw [set_same hC]; rfl), ownR_mk_ValueS (OwnF_frame _ m02 (fun j hj => rfl)), ?_, ⟨m04, trivial⟩, (fun j hj hj2 => by rw [m05 j hj2]), by simp only [List.length_set, m06]⟩
        · rw [LoopK_eq]
          simp -implicitDefEqProofs (disch := omega) only [go_sem, Nat.reduceBEq, Nat.reduceAdd, Nat.reduceSub, Nat.reduceMul, Nat.reduceLeDiff, Nat.reduceEqDiff, Nat.reduceLT, Int.reduceNeg, Int.reduceAdd, Int.reduceSub, Int.reduceMul, Int.reduceLE, Int.reduceLT, Int.reduceEq, Int.reduceToNat, reduceCtorEq, evL58x0, B58x0, hi, hi2, hh', hC, m01, hr0, hl0, IntWalk.i64_in, IntWalk.u8_in, refs, refC, frzs, List.contains_nil, List.getElem?_set_self, List.length_set, List.set_set, Int.add_assoc, Int.natCast_add, Int.natCast_one, Int.cast_ofNat_Int, pures, okN, hidl, hi']
        · have hq := heldR_mk_ValueS k z0 _ m03 h0 (by omega)
          first | exact hq | (refine cast ?_ hq; simp only [Int.add_assoc, Int.natCast_add, Int.natCast_one, Int.cast_ofNat_Int, Int.reduceAdd]) | (simpa only [Int.add_assoc, Int.natCast_add, Int.natCast_one, Int.cast_ofNat_Int, Int.reduceAdd] using hq)
        ) rfl e2 ho hn hb.2 h0 hk 1099511627775 (by omega)
    refine ⟨h', ys, ?_, f2, by simp only [HeldF]; exact ⟨ys, rfl, f3⟩, by simp only [LenF]; exact ⟨by omega, f5⟩, f6, f7⟩
    simp only [callX, callK]
    rw [runD_eq find58 _ _ _ (by simp)]
    simp -implicitDefEqProofs (disch := omega) only [go_sem, Nat.reduceBEq, Nat.reduceAdd, Nat.reduceSub, Nat.reduceMul, Nat.reduceLeDiff, Nat.reduceEqDiff, Nat.reduceLT, Int.reduceNeg, Int.reduceAdd, Int.reduceSub, Int.reduceMul, Int.reduceLE, Int.reduceLT, Int.reduceEq, Int.reduceToNat, reduceCtorEq]
    rw [f1]
    simp -implicitDefEqProofs only [go_sem, Nat.reduceBEq, Nat.reduceAdd, Nat.reduceSub, Nat.reduceMul, Nat.reduceLeDiff, Nat.reduceEqDiff, Nat.reduceLT, Int.reduceNeg, Int.reduceAdd, Int.reduceSub, Int.reduceMul, Int.reduceLE, Int.reduceLT, Int.reduceEq, Int.reduceToNat, reduceCtorEq, resOk]
end Go.Proofs.Ytgepapgabnaonaa.PE
/- Steps of an exact statement. -/
set_option linter.unusedVariables false
set_option linter.unusedSimpArgs false
namespace Go.Proofs.Ytgepapgabnaonaa.PE
open Go.RowKit

theorem pureDA_own {h : Heap} {fs : List Fd} {v : V} {u : U} {ids : List Nat} (ho : OwnF h (.sub fs) v u ids) (hd : dep (.sub fs) ≤ 6) : ∃ q, pureDA h v = some q ∧ PurF (.sub fs) q u := by
  obtain ⟨q, e, g⟩ := OwnF_pure (.sub fs) 6 hd ho
  refine ⟨q, ?_, g⟩
  rcases own_cases ho with ⟨c, rfl⟩ | ⟨id, st, n, clip, rfl⟩ <;> exact e
theorem pureDA_int (h : Heap) (k : IntKind) (n : Int) : pureDA h (.int k n) = some (.int k n) := rfl
theorem pureDA_bool (h : Heap) (b : Bool) : pureDA h (.bool b) = some (.bool b) := rfl
theorem pureDA_str (h : Heap) (b : ByteArray) : pureDA h (.str b) = some (.str b) := rfl
theorem retP_some {run : Run} {f : Nat} {args rs : List V} (h : retP run f args = some rs) : ∃ r hc, run f args [] = some (r, hc) ∧ pureRs hc r = some rs := by
  unfold retP PureR at h
  rcases hr : run f args [] with _ | ⟨r, hc⟩
  · rw [hr] at h; cases h
  · rw [hr] at h; exact ⟨r, hc, rfl, h⟩
theorem call_spec {run : Run} {h : Heap} {f : Nat} {args args' rs : List V} (hp : pureDAs h args = some args') (hr : retP run f args' = some rs) : ∃ h', callX run h 1 f args = some (oneOf rs, h') := by
  obtain ⟨r, hc, e1, e2⟩ := retP_some hr
  exact ⟨List.replicate h.length .dead, by simp only [callX, callD, hp, e1, e2]⟩
theorem pureD_bool {h : Heap} {n : Nat} {v : V} {b : Bool} (hp : pureD h n v = some (.bool b)) : v = .bool b := by
  cases v with
  | bool c => cases n <;> simp [pureD] at hp <;> rw [hp]
  | ref id st off len clip =>
    cases n with
    | zero => simp [pureD] at hp
    | succ n =>
      simp only [pureD] at hp
      split at hp
      · split at hp <;> cases hp
      · split at hp <;> cases hp
      · split at hp
        · obtain ⟨_, _, e⟩ := Option.map_eq_some_iff.1 hp; cases e
        · cases hp
      · cases hp
  | _ => cases n <;> simp [pureD] at hp
theorem pureD_int {h : Heap} {n : Nat} {v : V} {k : IntKind} {b : Int} (hp : pureD h n v = some (.int k b)) : v = .int k b := by
  cases v with
  | int c m => cases n <;> simp [pureD] at hp <;> obtain ⟨rfl, rfl⟩ := hp <;> rfl
  | ref id st off len clip =>
    cases n with
    | zero => simp [pureD] at hp
    | succ n =>
      simp only [pureD] at hp
      split at hp
      · split at hp <;> cases hp
      · split at hp <;> cases hp
      · split at hp
        · obtain ⟨_, _, e⟩ := Option.map_eq_some_iff.1 hp; cases e
        · cases hp
      · cases hp
  | _ => cases n <;> simp [pureD] at hp
theorem pureC_D {h : Heap} {v x : V} (hv : pureC h v = some x) : pureD h 1 v = some x := by
  cases v with
  | ref id st off len clip =>
    simp only [pureC] at hv
    simp only [pureD]
    split at hv
    · rename_i hb; rw [hb]; exact hv
    · rename_i hb; rw [hb]; exact hv
    · cases hv
  | _ => first | exact hv | (simp [pureC] at hv)
theorem pureA_C {h : Heap} {v x : V} (hv : pureA h v = some x) (hx : ∀ cs, x ≠ .agg cs) : pureC h v = some x := by
  unfold pureA at hv
  split at hv
  · obtain ⟨cs, _, e⟩ := Option.map_eq_some_iff.1 hv; exact absurd e.symm (hx cs)
  · exact hv
theorem pureRs_scal {h : Heap} {r : List V} {x : V} (hx : (∃ b, x = .bool b) ∨ ∃ k n, x = .int k n) (hp : pureRs h r = some [x]) : r = [x] := by
  have key : ∀ v, pureA h v = some x → v = x := by
    intro v hv
    have := pureC_D (pureA_C hv (by rintro cs rfl; rcases hx with ⟨b, e⟩ | ⟨k, n, e⟩ <;> cases e))
    rcases hx with ⟨b, rfl⟩ | ⟨k, n, rfl⟩
    · exact pureD_bool this
    · exact pureD_int this
  have key2 : ∀ v, pureDA h v = some x → v = x := by
    intro v hv
    unfold pureDA at hv
    split at hv
    · obtain ⟨_, _, e⟩ := Option.map_eq_some_iff.1 hv
      rcases hx with ⟨b, rfl⟩ | ⟨k, n, rfl⟩ <;> cases e
    · rcases hx with ⟨b, rfl⟩ | ⟨k, n, rfl⟩
      · exact pureD_bool hv
      · exact pureD_int hv
  unfold pureRs OrD at hp
  split at hp
  · rename_i r' hr
    injection hp with hp
    subst hp
    obtain ⟨a1, a2⟩ := pureAs_spec hr
    obtain ⟨v, hv, e⟩ := a2 0 x rfl
    match r, a1, hv with
    | [v'], _, hv => simp at hv; subst hv; rw [key _ e]
  · obtain ⟨a1, a2⟩ := pureDAs_spec hp
    obtain ⟨v, hv, e⟩ := a2 0 x rfl
    match r, a1, hv with
    | [v'], _, hv => simp at hv; subst hv; rw [key2 _ e]
theorem call_bool {run : Run} {h : Heap} {f : Nat} {args args' : List V} {b : Bool} (hp : pureDAs h args = some args') (hr : retP run f args' = some [.bool b]) : callX run h 0 f args = some (.bool b, h) := by
  obtain ⟨r, hc, e1, e2⟩ := retP_some hr
  have := pureRs_scal (.inl ⟨b, rfl⟩) e2
  subst this
  simp only [callX, callO, hp, e1]
  rfl
theorem call_int {run : Run} {h : Heap} {f : Nat} {args args' : List V} {k : IntKind} {b : Int} (hp : pureDAs h args = some args') (hr : retP run f args' = some [.int k b]) : callX run h 0 f args = some (.int k b, h) := by
  obtain ⟨r, hc, e1, e2⟩ := retP_some hr
  have := pureRs_scal (.inr ⟨k, b, rfl⟩) e2
  subst this
  simp only [callX, callO, hp, e1]
  rfl
theorem own_ids {h h' : Heap} {fs : List Fd} {v : V} {u : U} {ids : List Nat} (ho : OwnF h' (.sub fs) v u ids) (hl : ∀ j ∈ ids, h.length ≤ j) : ∀ j ∈ ids, h.length ≤ j ∧ j < h'.length := fun j hj => ⟨hl j hj, OwnF_lt _ ho j hj⟩
end Go.Proofs.Ytgepapgabnaonaa.PE
/- Parts of expressions: the kinds that they put down, the program's. -/
set_option linter.unusedSimpArgs false
set_option linter.unusedVariables false
set_option maxHeartbeats 4000000
namespace Go.Proofs.Ytgepapgabnaonaa.PE
open Go.RowKit

/-- A part. -/
structure Prt where
  kind : Int
  n : Int
  v : Val
  deriving DecidableEq
def Prt.cells (p : Prt) : List V := [.int .i64 p.kind, .int .i64 p.n, .int .i64 p.v.kind, .int .i64 p.v.n, .str p.v.s]
theorem Prt.eta (p : Prt) : (⟨p.kind, p.n, p.v⟩ : Prt) = p := rfl
def Prt.takes (p : Prt) : Int := if p.kind = 3 then 2 else if p.kind = 4 then 2 else if p.kind = 5 then 2 else if p.kind = 6 then 2 else if p.kind = 7 then 1 else if p.kind = 8 then 1 else 0
def Prt.tells (n : Nat) (p : Prt) : Bool :=
  if p.kind = 1 then (if p.n = 0 then (if p.v.ok then !decide (p.v.kind = 0) else false) else false)
  else if p.kind = 2 then (if 0 ≤ p.n ∧ p.n ≤ (n : Int) - 1 then decide (p.v = Val.zero) else false)
  else if p.kind = 4 then (if 1 ≤ p.n ∧ p.n ≤ 4 then decide (p.v = Val.zero) else false)
  else if p.kind = 3 ∨ p.kind = 5 ∨ p.kind = 6 ∨ p.kind = 7 ∨ p.kind = 8 then (if p.n = 0 then decide (p.v = Val.zero) else false)
  else false
theorem run_takes (d : Nat) (py pz : Int) (pvk pvn : Int) (pvq : ByteArray) : retP (runD tab noExt (d + 1)) 89 [.agg [.int .i64 py, .int .i64 pz, .int .i64 pvk, .int .i64 pvn, .str pvq]] = some [.int .i64 (Prt.takes (⟨py, pz, (⟨pvk, pvn, pvq⟩ : Val)⟩ : Prt))] := by
  rw [retP, runD_eq find89 _ _ _ (by simp)]
  simp -implicitDefEqProofs (disch := omega) only [go_sem, Nat.reduceBEq, Nat.reduceAdd, Nat.reduceSub, Nat.reduceMul, Nat.reduceLeDiff, Nat.reduceEqDiff, Nat.reduceLT, Int.reduceNeg, Int.reduceAdd, Int.reduceSub, Int.reduceMul, Int.reduceLE, Int.reduceLT, Int.reduceEq, Int.reduceToNat, reduceCtorEq]
  repeat' ((first | rw [GuardI_ndec] | rw [CondC_ndec] | rw [GuardQ_ndec] | rw [GuardI_dec] | rw [CondC_dec] | rw [GuardQ_dec] | rw [GuardI_nby] | rw [CondC_nby] | rw [GuardQ_nby] | rw [GuardQ_by] | rw [GuardI_by] | rw [CondC_by]) <;> split <;> simp -implicitDefEqProofs (disch := omega) only [go_sem, Nat.reduceBEq, Nat.reduceAdd, Nat.reduceSub, Nat.reduceMul, Nat.reduceLeDiff, Nat.reduceEqDiff, Nat.reduceLT, Int.reduceNeg, Int.reduceAdd, Int.reduceSub, Int.reduceMul, Int.reduceLE, Int.reduceLT, Int.reduceEq, Int.reduceToNat, reduceCtorEq, *])
  all_goals (first | (simp only [Prt.takes, reduceIte, if_true, if_false, Bool.false_eq_true, *]; done) | (simp_all [Prt.takes]; done) | (simp_all [Prt.takes]; omega) | (simp_all [Prt.takes]; grind) | grind [Prt.takes])
theorem run_tells (d : Nat) (py pz : Int) (pvk pvn : Int) (pvq : ByteArray) (c : Bool) (cs : List Col) (hc : cs.length < 1099511627776) : retP (runD tab noExt (d + 4)) 94 [.agg [.int .i64 py, .int .i64 pz, .int .i64 pvk, .int .i64 pvn, .str pvq], .sl c 2 (cs.map Col.cells)] = some [.bool (Prt.tells cs.length (⟨py, pz, (⟨pvk, pvn, pvq⟩ : Val)⟩ : Prt))] := by
  rw [retP, runD_eq find94 _ _ _ (by simp)]
  simp -implicitDefEqProofs (disch := omega) only [go_sem, Nat.reduceBEq, Nat.reduceAdd, Nat.reduceSub, Nat.reduceMul, Nat.reduceLeDiff, Nat.reduceEqDiff, Nat.reduceLT, Int.reduceNeg, Int.reduceAdd, Int.reduceSub, Int.reduceMul, Int.reduceLE, Int.reduceLT, Int.reduceEq, Int.reduceToNat, reduceCtorEq, run_ok, run_between, IntWalk.i64_in]
  repeat' ((first | rw [GuardI_ndec] | rw [CondC_ndec] | rw [GuardQ_ndec] | rw [GuardI_dec] | rw [CondC_dec] | rw [GuardQ_dec] | rw [GuardI_nby] | rw [CondC_nby] | rw [GuardQ_nby] | rw [GuardQ_by] | rw [GuardI_by] | rw [CondC_by]) <;> split <;> simp -implicitDefEqProofs (disch := omega) only [go_sem, Nat.reduceBEq, Nat.reduceAdd, Nat.reduceSub, Nat.reduceMul, Nat.reduceLeDiff, Nat.reduceEqDiff, Nat.reduceLT, Int.reduceNeg, Int.reduceAdd, Int.reduceSub, Int.reduceMul, Int.reduceLE, Int.reduceLT, Int.reduceEq, Int.reduceToNat, reduceCtorEq, run_ok, run_between, IntWalk.i64_in, *])
  all_goals (first | (simp only [Prt.tells, Val.zero, Val.mk.injEq, reduceIte, if_true, if_false, Bool.false_eq_true, *]; done) | (simp_all [Prt.tells, Val.zero, Val.mk.injEq]; done) | (simp_all [Prt.tells, Val.zero, Val.mk.injEq]; omega) | (simp_all [Prt.tells, Val.zero, Val.mk.injEq]; grind) | grind [Prt.tells, Val.zero, Val.mk.injEq])

-- find142
theorem clo_kind (d : Nat) (py pz : Int) (pvk pvn : Int) (pvq : ByteArray) (c : Bool) (l : List (List V)) (k x : Int) : callS (runD tab noExt (d + 1)) [.box [.int .i64 py, .int .i64 pz, .int .i64 pvk, .int .i64 pvn, .str pvq], .box [.sl c 1 l], .box [.int .i64 k]] 142 [.int .i64 x, .ptr 2 0 0 0] false = some (.bool (!decide (x = k)), [.box [.int .i64 py, .int .i64 pz, .int .i64 pvk, .int .i64 pvn, .str pvq], .box [.sl c 1 l], .box [.int .i64 k]]) := by
  rw [callS_eq, runD_eq find142 _ _ _ (by simp)]
  simp -implicitDefEqProofs (disch := omega) only [go_sem, Nat.reduceBEq, Nat.reduceAdd, Nat.reduceSub, Nat.reduceMul, Nat.reduceLeDiff, Nat.reduceEqDiff, Nat.reduceLT, Int.reduceNeg, Int.reduceAdd, Int.reduceSub, Int.reduceMul, Int.reduceLE, Int.reduceLT, Int.reduceEq, Int.reduceToNat, reduceCtorEq]
-- find141
theorem clo_all (d : Nat) (py pz : Int) (pvk pvn : Int) (pvq : ByteArray) (c : Bool) (ins : List Int) (k : Int) (hi : ins.length < 1099511627776) : callS (runD tab noExt (d + 4)) [.box [.int .i64 py, .int .i64 pz, .int .i64 pvk, .int .i64 pvn, .str pvq], .box [.sl c 1 (ins.map intC)]] 141 [.int .i64 k, .ptr 1 0 0 0] false = some (.bool (ins.all fun x => decide (x = k)), [.box [.int .i64 py, .int .i64 pz, .int .i64 pvk, .int .i64 pvn, .str pvq], .box [.sl c 1 (ins.map intC)]]) := by
  rw [callS_eq, runD_eq find141 _ _ _ (by simp)]
  have hcon := conInt (d + 1) [.box [.int .i64 py, .int .i64 pz, .int .i64 pvk, .int .i64 pvn, .str pvq], .box [.sl c 1 (ins.map intC)], .box [.int .i64 k]] c 142 [.ptr 2 0 0 0] ins (fun x => !decide (x = k)) hi rfl rfl (fun x _ => clo_kind d _ _ _ _ _ c _ k x)
  simp -implicitDefEqProofs (disch := omega) only [go_sem, Nat.reduceBEq, Nat.reduceAdd, Nat.reduceSub, Nat.reduceMul, Nat.reduceLeDiff, Nat.reduceEqDiff, Nat.reduceLT, Int.reduceNeg, Int.reduceAdd, Int.reduceSub, Int.reduceMul, Int.reduceLE, Int.reduceLT, Int.reduceEq, Int.reduceToNat, reduceCtorEq, hcon]
  rw [List.any_eq_not_all_not]
  simp

def kindOf (cs : List Col) (p : Prt) (ins : List Int) : Int × Bool :=
  if p.kind = 1 then (p.v.kind, true) else if p.kind = 2 then ((cs.getD p.n.toNat ⟨0, false⟩).kind, true) else if p.kind = 3 then (1, ins.all fun x => decide (x = 1))
  else if p.kind = 4 then (3, decide (ins.getD 0 0 = ins.getD 1 0)) else if p.kind = 8 then (3, true) else (3, ins.all fun x => decide (x = 3))
theorem tells_col {n : Nat} {p : Prt} (h : p.tells n = true) (h2 : p.kind = 2) : 0 ≤ p.n ∧ p.n < n := by
  unfold Prt.tells at h
  rw [if_neg (by omega), if_pos h2] at h
  split at h
  · omega
  · cases h
-- find95
theorem run_kind (d : Nat) (py pz : Int) (pvk pvn : Int) (pvq : ByteArray) (c c' : Bool) (cs : List Col) (ins : List Int) (hc : cs.length < 1099511627776) (hi : ins.length < 1099511627776) (ht : Prt.tells cs.length (⟨py, pz, (⟨pvk, pvn, pvq⟩ : Val)⟩ : Prt) = true) (h4 : py = 4 → 2 ≤ ins.length) :
    retP (runD tab noExt (d + 5)) 95 [.agg [.int .i64 py, .int .i64 pz, .int .i64 pvk, .int .i64 pvn, .str pvq], .sl c 2 (cs.map Col.cells), .sl c' 1 (ins.map intC)] = some [.int .i64 (kindOf cs (⟨py, pz, (⟨pvk, pvn, pvq⟩ : Val)⟩ : Prt) ins).1, .bool (kindOf cs (⟨py, pz, (⟨pvk, pvn, pvq⟩ : Val)⟩ : Prt) ins).2] := by
  rw [retP, runD_eq find95 _ _ _ (by simp)]
  have hall := fun k => clo_all d py pz pvk pvn pvq c' ins k hi
  by_cases h2 : py = 2
  · obtain ⟨g1, g2⟩ := tells_col ht h2
    dsimp only at g1 g2
    have hat := at_getD (⟨0, false⟩ : Col) (show pz.toNat < cs.length by omega)
    subst h2
    simp -implicitDefEqProofs (disch := omega) only [go_sem, Nat.reduceBEq, Nat.reduceAdd, Nat.reduceSub, Nat.reduceMul, Nat.reduceLeDiff, Nat.reduceEqDiff, Nat.reduceLT, Int.reduceNeg, Int.reduceAdd, Int.reduceSub, Int.reduceMul, Int.reduceLE, Int.reduceLT, Int.reduceEq, Int.reduceToNat, reduceCtorEq, hat, Col.cells, g1]
    simp [kindOf]
  · by_cases h4' : py = 4
    · have g := h4 h4'
      have hat0 := at_getD (0 : Int) (show 0 < ins.length by omega)
      have hat1 := at_getD (0 : Int) (show 1 < ins.length by omega)
      subst h4'
      simp -implicitDefEqProofs (disch := omega) only [go_sem, Nat.reduceBEq, Nat.reduceAdd, Nat.reduceSub, Nat.reduceMul, Nat.reduceLeDiff, Nat.reduceEqDiff, Nat.reduceLT, Int.reduceNeg, Int.reduceAdd, Int.reduceSub, Int.reduceMul, Int.reduceLE, Int.reduceLT, Int.reduceEq, Int.reduceToNat, reduceCtorEq, evC_draw, evD95x0, E95x0, hat0, hat1, intC, Int.toNat_zero, Int.toNat_one]
      simp [kindOf]
    · by_cases h3 : py = 3
      · subst h3
        simp -implicitDefEqProofs (disch := omega) only [go_sem, Nat.reduceBEq, Nat.reduceAdd, Nat.reduceSub, Nat.reduceMul, Nat.reduceLeDiff, Nat.reduceEqDiff, Nat.reduceLT, Int.reduceNeg, Int.reduceAdd, Int.reduceSub, Int.reduceMul, Int.reduceLE, Int.reduceLT, Int.reduceEq, Int.reduceToNat, reduceCtorEq, hall]
        simp [kindOf]
      · clear ht h4
        simp -implicitDefEqProofs (disch := omega) only [go_sem, Nat.reduceBEq, Nat.reduceAdd, Nat.reduceSub, Nat.reduceMul, Nat.reduceLeDiff, Nat.reduceEqDiff, Nat.reduceLT, Int.reduceNeg, Int.reduceAdd, Int.reduceSub, Int.reduceMul, Int.reduceLE, Int.reduceLT, Int.reduceEq, Int.reduceToNat, reduceCtorEq, h2, h4', h3, hall]
        repeat' ((first | rw [GuardI_ndec] | rw [CondC_ndec] | rw [GuardQ_ndec] | rw [GuardI_dec] | rw [CondC_dec] | rw [GuardQ_dec] | rw [GuardI_nby] | rw [CondC_nby] | rw [GuardQ_nby] | rw [GuardQ_by] | rw [GuardI_by] | rw [CondC_by]) <;> split <;> simp -implicitDefEqProofs (disch := omega) only [go_sem, Nat.reduceBEq, Nat.reduceAdd, Nat.reduceSub, Nat.reduceMul, Nat.reduceLeDiff, Nat.reduceEqDiff, Nat.reduceLT, Int.reduceNeg, Int.reduceAdd, Int.reduceSub, Int.reduceMul, Int.reduceLE, Int.reduceLT, Int.reduceEq, Int.reduceToNat, reduceCtorEq, hall, h2, h4', h3, *])
        · simp [kindOf, *]
        · subst_vars
          simp [kindOf]
        · simp [kindOf, *]
end Go.Proofs.Ytgepapgabnaonaa.PE
/- Contents of trees as columns, values, rows, numbers. -/
set_option linter.unusedVariables false
set_option linter.unusedSimpArgs false
namespace Go.Proofs.Ytgepapgabnaonaa.PE
open Go.RowKit

def colU (c : Col) : List U := [.int c.kind, .bool c.empty]
def valU (v : Val) : List U := [.int v.kind, .int v.n, .str v.s]
def intU (n : Int) : List U := [.int n]
def vsU (vs : List Val) : List U := [.sub (vs.map valU)]
theorem typ_of {α : Type} {R : List V → List U → Prop} {f : α → List V} {g : α → List U} (h : ∀ c x, R c x → ∃ a, c = f a ∧ x = g a) : ∀ {l1 : List (List V)} {l2 : List (List U)}, Zip2 R l1 l2 → ∃ ls : List α, l1 = ls.map f ∧ l2 = ls.map g
  | [], [], _ => ⟨[], rfl, rfl⟩
  | c :: l1, x :: l2, ⟨h1, h2⟩ => by
    obtain ⟨a, rfl, rfl⟩ := h c x h1
    obtain ⟨ls, rfl, rfl⟩ := typ_of h h2
    exact ⟨a :: ls, rfl, rfl⟩
  | [], _ :: _, h => h.elim
  | _ :: _, [], h => h.elim
theorem zip_map {α : Type} {R : List V → List U → Prop} {f : α → List V} {g : α → List U} (h : ∀ a, R (f a) (g a)) : ∀ (ls : List α), Zip2 R (ls.map f) (ls.map g)
  | [] => trivial
  | a :: ls => ⟨h a, zip_map h ls⟩
theorem pur_map {α : Type} {fs : List Fd} {f : α → List V} {g : α → List U} (h : ∀ a, PurR fs (f a) (g a)) (c : Bool) (n : Nat) (hn : n = fs.length) (ls : List α) : PurF (.sub fs) (.sl c n (ls.map f)) (.sub (ls.map g)) := by
  subst hn
  simp only [PurF]
  exact ⟨c, _, _, rfl, rfl, zip_map h ls⟩
theorem sum_le {c : List U → Nat} {n : Nat} (h : ∀ x, c x ≤ n) : ∀ (xs : List (List U)), sumU c xs ≤ n * xs.length
  | [] => by simp [sumU]
  | x :: xs => by
    have := sum_le h xs
    have := h x
    simp only [sumU, List.length_cons, Nat.mul_add, Nat.mul_one]
    omega
theorem sum_one {f : Fd} (hf : ∀ u, cntF f u = 1) (xs : List (List U)) : sumU (cntR [f]) xs ≤ xs.length := by
  have := sum_le (c := cntR [f]) (n := 1) (fun x => by cases x <;> simp [cntR, hf]) xs
  omega
theorem all_flat {n m : Nat} {fs : List Fd} (hf : ∀ f ∈ fs, f = .bool ∨ ∃ k, f = .int k) : ∀ (xs : List (List U)), AllU (LenR n m fs) xs
  | [] => trivial
  | x :: xs => ⟨by
    have key : ∀ (fs : List Fd), (∀ f ∈ fs, f = .bool ∨ ∃ k, f = .int k) → ∀ x, LenR n m fs x := by
      intro fs
      induction fs with
      | nil => intro _ x; simp [LenR]
      | cons f fs ih =>
        intro hf x
        cases x with
        | nil => simp [LenR]
        | cons u x =>
          simp only [LenR]
          refine ⟨?_, ih (fun g hg => hf g (List.mem_cons_of_mem _ hg)) x⟩
          rcases hf f List.mem_cons_self with rfl | ⟨k, rfl⟩ <;> simp [LenF]
    exact key fs hf x, all_flat hf xs⟩

theorem colsU_of {l1 : List (List V)} {l2 : List (List U)} (h : Zip2 (PurR fdColumn) l1 l2) : ∃ cs : List Col, l1 = cs.map Col.cells ∧ l2 = cs.map colU :=
  typ_of (fun c x hr => by obtain ⟨a, b, rfl, rfl⟩ := purR_Column hr; exact ⟨⟨a, b⟩, rfl, rfl⟩) h
theorem valsU_of {l1 : List (List V)} {l2 : List (List U)} (h : Zip2 (PurR fdValue) l1 l2) : ∃ vs : List Val, l1 = vs.map Val.cells ∧ l2 = vs.map valU :=
  typ_of (fun c x hr => by obtain ⟨a, b, s, rfl, rfl⟩ := purR_Value hr; exact ⟨⟨a, b, s⟩, rfl, rfl⟩) h
theorem rowsU_of {l1 : List (List V)} {l2 : List (List U)} (h : Zip2 (PurR fdValueS) l1 l2) : ∃ rs : List Row, l1 = rs.map Row.cells ∧ l2 = rs.map (fun r => vsU r.vs) :=
  typ_of (fun c x hr => by
    obtain ⟨p, y, rfl, rfl, g⟩ := purR_ValueS hr
    obtain ⟨cl, ct, rfl, hz⟩ := purS_Value g
    obtain ⟨vs, rfl, rfl⟩ := valsU_of hz
    exact ⟨⟨cl, vs⟩, rfl, rfl⟩) h
theorem colU_inj {a b : Col} (h : colU a = colU b) : a = b := by
  cases a; cases b
  simp only [colU, List.cons.injEq, U.int.injEq, U.bool.injEq, and_true] at h
  obtain ⟨rfl, rfl⟩ := h
  rfl
theorem valU_inj {a b : Val} (h : valU a = valU b) : a = b := by
  cases a; cases b
  simp only [valU, List.cons.injEq, U.int.injEq, U.str.injEq, and_true] at h
  obtain ⟨rfl, rfl, rfl⟩ := h
  rfl
theorem map_inj {α β : Type} {g : α → β} (hg : ∀ a b, g a = g b → a = b) {l1 l2 : List α} (h : l1.map g = l2.map g) : l1 = l2 := (List.map_inj_right hg).1 h
theorem intU_inj {a b : Int} (h : intU a = intU b) : a = b := by
  simp only [intU, List.cons.injEq, U.int.injEq, and_true] at h
  exact h
theorem vsU_inj {a b : List Val} (h : vsU a = vsU b) : a = b := by
  simp only [vsU, List.cons.injEq, U.sub.injEq, and_true] at h
  exact map_inj (fun _ _ => valU_inj) h
theorem col_pur (c : Col) : PurR fdColumn c.cells (colU c) := purR_mk_Column c.kind c.empty
theorem val_pur (v : Val) : PurR fdValue v.cells (valU v) := purR_mk_Value v.kind v.n v.s
theorem row_pur (r : Row) : PurR fdValueS r.cells (vsU r.vs) := purR_mk_ValueS (pur_map val_pur _ 3 rfl _)
/-- Values of one's own. -/
theorem own_flat {α : Type} {fs : List Fd} {f : α → List V} {g : α → List U} {h : Heap} (ho : ∀ a, OwnR h fs (f a) (g a) []) : ∀ (ls : List α), Zip3 (OwnR h fs) (ls.map f) (ls.map g) []
  | [] => rfl
  | a :: ls => ⟨[], [], rfl, ho a, own_flat ho ls⟩
theorem own_row {α : Type} {fs : List Fd} {f : α → List V} {g : α → List U} {h : Heap} {id st n : Nat} {clip : Bool} (hd : fs.any Fd.deep = false) (ls : List α) (hn : n = ls.length) (hb : h[id]? = some (.rows st fs.length (ls.map f))) (ho : ∀ a, OwnR h fs (f a) (g a) []) : OwnF h (.sub fs) (.ref id st 0 n clip) (.sub (ls.map g)) [id] := by
  simp only [OwnF]
  refine ⟨_, rfl, .inr ⟨id, st, clip, ls.map f, [], by rw [hn, List.length_map], ?_, rfl, own_flat ho ls⟩⟩
  rw [hb]
  unfold blkOf
  rw [hd]
  rfl
theorem own_nil {fs : List Fd} {h : Heap} {c : Bool} {n : Nat} (hn : n = fs.length) : OwnF h (.sub fs) (.sl c n []) (.sub []) [] := by
  subst hn
  rw [OwnF]
  exact ⟨[], rfl, .inl ⟨c, rfl, rfl, rfl⟩⟩
end Go.Proofs.Ytgepapgabnaonaa.PE
/- Copies of rows as memory of one's own, rows that are kept, rows whose value is in a list or out of it. -/
set_option linter.unusedVariables false
set_option linter.unusedSimpArgs false
set_option maxHeartbeats 4000000
namespace Go.Proofs.Ytgepapgabnaonaa.PE
open Go.RowKit

def rowU (r : Row) : List U := vsU r.vs
theorem val_own (h : Heap) (v : Val) : OwnR h fdValue v.cells (valU v) [] := ownR_mk_Value h v.kind v.n v.s
theorem own_cloneVal (d : Nat) (c : Bool) (vs : List Val) (hl : vs.length < 4294967296) : ∃ v hc ids, runD tab noExt (d + 2) 153 [.sl c 3 (vs.map Val.cells)] [] = some ([v], hc) ∧ OwnF hc (.sub fdValue) v (.sub (vs.map valU)) ids ∧ ids.Nodup := by
  match vs, hl with
  | [], _ => exact ⟨_, _, [], runnVal d c, own_nil rfl, List.nodup_nil⟩
  | x :: r, hl => exact ⟨_, _, [0], runcVal d c ((x :: r).map Val.cells) (by simp) (by simpa using hl), own_row rfl (x :: r) (by simp) rfl (val_own _), by simp⟩
-- find120
theorem loop_copy (d : Nat) (c : Bool) (rs : List Row) (hf : Fine rs) : ∃ h' cont r, LoopK (runD tab noExt (d + 2)) (drawI (runD tab noExt (d + 2))) [3, 6, 7, 8] [3] L120x0 1099511627775 [(3, .ref 0 0 0 0 false), (6, .sl c 1 (rs.map Row.cells)), (7, .int .i64 rs.length), (8, .int .i64 0)] [.nest 0 1 []] = some (.exit 0, [(3, .ref 0 rs.length 0 rs.length false)], h') ∧ h'[0]? = some (.nest rs.length 1 cont) ∧ cont.length = rs.length ∧ Zip3 (OwnR h' fdValueS) cont (rs.map rowU) r ∧ (0 :: r).Nodup := by
  have hf0 := hf.1
  obtain ⟨h', ⟨done, ids, g1, g2, g3, g4, g5⟩, e⟩ := LoopK_inv (run := runD tab noExt (d + 2)) (draw := drawI (runD tab noExt (d + 2))) (live := [3, 6, 7, 8]) (out := [3]) (c := L120x0) rs.length
    (fun i (h : Heap) => ∃ done ids, h[0]? = some (.nest i 1 done) ∧ done.length = i ∧ Zip3 (OwnR h fdValueS) done ((rs.take i).map rowU) ids ∧ ids.Nodup ∧ 0 ∉ ids)
    (fun i _ => [(3, .ref 0 i 0 i false), (6, .sl c 1 (rs.map Row.cells)), (7, .int .i64 rs.length), (8, .int .i64 (i : Nat))]) (fun h => h) (fun h => some (.exit 0, [(3, .ref 0 rs.length 0 rs.length false)], h))
    (fun h K hb => by
      rw [LoopK_eq]
      simp -implicitDefEqProofs only [go_sem, Nat.reduceBEq, Nat.reduceAdd, Nat.reduceSub, Nat.reduceMul, Nat.reduceLeDiff, Nat.reduceEqDiff, Nat.reduceLT, Int.reduceNeg, Int.reduceAdd, Int.reduceSub, Int.reduceMul, Int.reduceLE, Int.reduceLT, Int.reduceEq, Int.reduceToNat, reduceCtorEq, evL120x0, B120x0, Int.lt_irrefl]) (fun i h K hi hb => by
      obtain ⟨done, ids, g1, g2, g3, g4, g5⟩ := hb
      have hx := List.getElem?_eq_getElem hi
      generalize rs[i] = x at hx
      obtain ⟨v, hc, is0, e1, e2, e3⟩ := own_cloneVal d x.clip x.vs (Fine_at hf hx)
      obtain ⟨w, h1, js, k1, k2, k3, k4, k5, k6⟩ := own_call (h := h) (args := [.sl x.clip 3 (x.vs.map Val.cells)]) (by simp only [pureDAs, mapO, pureDA, pureD]) e1 e2 e3
      have h0 : 0 < h.length := (List.getElem?_eq_some_iff.1 g1).1
      have h10 : 0 < h1.length := by omega
      have g1' : h1[0]? = some (.nest i 1 done) := by rw [k5 0 h0, g1]
      have hlt := Zip3_all (fun c x i hr => OwnR_lt fdValueS hr) g3
      have hj0 : 0 ∉ js := fun hm => by have := k4 0 hm; omega
      refine ⟨h1.set 0 (.nest (i + 1) 1 (done ++ [[w]])), ⟨done ++ [[w]], ids ++ js, ?_, by simp [g2], ?_, ?_, ?_⟩, ?_⟩
      · rw [List.getElem?_set_self h10]
      · rw [take_snoc hx, List.map_append]
        refine Zip3_app (Zip3_mono (P := fun id => id ∈ ids) (fun c x j hr hp => OwnR_frame _ hr (fun id hid => ?_)) g3 (fun _ h => h)) (Zip3_one ⟨w, [], _, [], js, [], rfl, rfl, by simp, OwnF_frame _ k2 (fun id hid => ?_), rfl, rfl, rfl⟩)
        · have hne : 0 ≠ id := fun e => g5 (e ▸ hp id hid)
          rw [List.getElem?_set_ne hne]
          exact k5 id (hlt id (hp id hid))
        · have hne : 0 ≠ id := fun e => hj0 (e ▸ hid)
          rw [List.getElem?_set_ne hne]
      · refine List.nodup_append.2 ⟨g4, k3, fun p hp q hq => ?_⟩
        have := hlt p hp
        have := k4 q hq
        omega
      · intro hm
        rcases List.mem_append.1 hm with hm | hm
        · exact g5 hm
        · exact hj0 hm
      · have hi' : (i : Int) < rs.length := by omega
        have hsm : done.length + 1 < 4294967296 := by omega
        rw [LoopK_eq]
        subst g2
        rcases own_cases k2 with ⟨c', rfl⟩ | ⟨id, st, n, clip, rfl⟩
        · simp -implicitDefEqProofs (disch := omega) only [go_sem, Nat.reduceBEq, Nat.reduceAdd, Nat.reduceSub, Nat.reduceMul, Nat.reduceLeDiff, Nat.reduceEqDiff, Nat.reduceLT, Int.reduceNeg, Int.reduceAdd, Int.reduceSub, Int.reduceMul, Int.reduceLE, Int.reduceLT, Int.reduceEq, Int.reduceToNat, reduceCtorEq, evL120x0, B120x0, hi', hx, Row.cells, Row.v, k1, g1', elemsN, elemN, listN, appendN, okN, hsm, IntWalk.i64_in, small]
        · simp -implicitDefEqProofs (disch := omega) only [go_sem, Nat.reduceBEq, Nat.reduceAdd, Nat.reduceSub, Nat.reduceMul, Nat.reduceLeDiff, Nat.reduceEqDiff, Nat.reduceLT, Int.reduceNeg, Int.reduceAdd, Int.reduceSub, Int.reduceMul, Int.reduceLE, Int.reduceLT, Int.reduceEq, Int.reduceToNat, reduceCtorEq, evL120x0, B120x0, hi', hx, Row.cells, Row.v, k1, g1', elemsN, elemN, listN, appendN, okN, hsm, IntWalk.i64_in, small]) 1099511627775 (by omega) [.nest 0 1 []] ⟨[], [], rfl, rfl, rfl, List.nodup_nil, by simp⟩
  rw [List.take_of_length_le (Nat.le_refl _)] at g3
  exact ⟨h', done, ids, e, g1, g2, g3, List.nodup_cons.2 ⟨g5, g4⟩⟩
theorem clip_nest (d : Nat) (h : Heap) (n : Nat) {cont : List (List V)} (hb : h[0]? = some (.nest n 1 cont)) (hn : cont.length = n) : callX (runD tab noExt (d + 1)) h 2 154 [.ref 0 n 0 n false] = some (.ref 0 n 0 n true, h) := by
  simp only [callX, callK]
  rw [runD_eq find154 _ _ _ (by simp)]
  simp -implicitDefEqProofs (disch := omega) only [go_sem, Nat.reduceBEq, Nat.reduceAdd, Nat.reduceSub, Nat.reduceMul, Nat.reduceLeDiff, Nat.reduceEqDiff, Nat.reduceLT, Int.reduceNeg, Int.reduceAdd, Int.reduceSub, Int.reduceMul, Int.reduceLE, Int.reduceLT, Int.reduceEq, Int.reduceToNat, reduceCtorEq, Bool.true_or, resOk, hb, hn]
theorem own_rowsCopy (d : Nat) (c : Bool) (rs : List Row) (hf : Fine rs) : ∃ v hc ids, runD tab noExt (d + 3) 120 [.sl c 1 (rs.map Row.cells)] [] = some ([v], hc) ∧ OwnF hc (.sub fdValueS) v (.sub (rs.map rowU)) ids ∧ ids.Nodup := by
  obtain ⟨h', cont, r, e, e1, e2, e3, e4⟩ := loop_copy d c rs hf
  refine ⟨.ref 0 rs.length 0 rs.length true, h', 0 :: r, ?_, ?_, e4⟩
  · rw [runD_eq find120 _ _ _ (by simp)]
    have h0 := hf.1
    have hc := clip_nest (d + 1) h' rs.length e1 e2
    simp -implicitDefEqProofs (disch := omega) only [go_sem, Nat.reduceBEq, Nat.reduceAdd, Nat.reduceSub, Nat.reduceMul, Nat.reduceLeDiff, Nat.reduceEqDiff, Nat.reduceLT, Int.reduceNeg, Int.reduceAdd, Int.reduceSub, Int.reduceMul, Int.reduceLE, Int.reduceLT, Int.reduceEq, Int.reduceToNat, reduceCtorEq]
    try simp -implicitDefEqProofs only [go_sem, Nat.reduceBEq, Nat.reduceAdd, Nat.reduceSub, Nat.reduceMul, Nat.reduceLeDiff, Nat.reduceEqDiff, Nat.reduceLT, Int.reduceNeg, Int.reduceAdd, Int.reduceSub, Int.reduceMul, Int.reduceLE, Int.reduceLT, Int.reduceEq, Int.reduceToNat, reduceCtorEq] at e
    rw [e]
    simp -implicitDefEqProofs (disch := omega) only [go_sem, Nat.reduceBEq, Nat.reduceAdd, Nat.reduceSub, Nat.reduceMul, Nat.reduceLeDiff, Nat.reduceEqDiff, Nat.reduceLT, Int.reduceNeg, Int.reduceAdd, Int.reduceSub, Int.reduceMul, Int.reduceLE, Int.reduceLT, Int.reduceEq, Int.reduceToNat, reduceCtorEq, hc]
  · simp only [OwnF]
    exact ⟨_, rfl, .inr ⟨0, rs.length, true, cont, r, by rw [e2], e1, rfl, e3⟩⟩
-- find100
theorem own_kept (d : Nat) (c cb : Bool) (g : Nat) (rs bs : List Row) (u v : Int) (P : Row → Bool) (hf : Fine rs) (hg : ∀ x ∈ rs, ∀ (st : Nat) (l : List (List V)), callS (runD tab noExt (d + 3)) [.box [.sl cb 1 (bs.map Row.cells)], .box [.int .i64 u], .box [.int .i64 v], .rows st 1 l] g [Row.v x, .ptr 1 0 0 0, .ptr 0 0 0 0, .ptr 2 0 0 0] false = some (.bool (P x), [.box [.sl cb 1 (bs.map Row.cells)], .box [.int .i64 u], .box [.int .i64 v], .rows st 1 l])) :
    ∃ w h' ids, callX (runD tab noExt (d + 4)) [.box [.sl cb 1 (bs.map Row.cells)], .box [.int .i64 u], .box [.int .i64 v]] 2 100 [.sl c 1 (rs.map Row.cells), .clo g [.ptr 1 0 0 0, .ptr 0 0 0 0, .ptr 2 0 0 0]] =
      some (w, h') ∧ OwnF h' (.sub fdValueS) w (.sub ((rs.filter P).map rowU)) ids ∧ ids.Nodup := by
  have h0 := hf.1
  have hl := (loop_kept (d + 3) c cb g rs bs u v P hf.1 hg 1099511627775 (by omega) [] (Nat.le_refl _)).1
  simp only [keep_filter, List.nil_append, List.length_nil, List.map_nil, Int.natCast_zero, List.length_cons] at hl
  have hff : Fine (rs.filter P) := ⟨Nat.lt_of_le_of_lt (List.length_filter_le _ _) h0, fun r hr => hf.2 r (List.mem_filter.1 hr).1⟩
  have e : List.take (rs.filter P).length ((rs.filter P).map Row.cells) = (rs.filter P).map Row.cells := List.take_of_length_le (by simp)
  obtain ⟨v1, hc, is0, e1, e2, e3⟩ := own_rowsCopy d false (rs.filter P) hff
  obtain ⟨w, h1, js, k1, k2, k3, k4, k5, k6⟩ := own_call (h := [.box [.sl cb 1 (bs.map Row.cells)], .box [.int .i64 u], .box [.int .i64 v], .rows (rs.filter P).length 1 ((rs.filter P).map Row.cells)]) (args := [.ref 3 (rs.filter P).length 0 (rs.filter P).length false]) (by simp only [pureDAs, mapO, pureDA, pureD, deepest, List.getElem?_cons_succ, List.getElem?_cons_zero, if_true, List.drop_zero, e]) e1 e2 e3
  refine ⟨w, h1, js, ?_, k2, k3⟩
  simp only [callX, callK]
  rw [runD_eq find100 _ _ _ (by simp)]
  simp -implicitDefEqProofs (disch := omega) only [go_sem, Nat.reduceBEq, Nat.reduceAdd, Nat.reduceSub, Nat.reduceMul, Nat.reduceLeDiff, Nat.reduceEqDiff, Nat.reduceLT, Int.reduceNeg, Int.reduceAdd, Int.reduceSub, Int.reduceMul, Int.reduceLE, Int.reduceLT, Int.reduceEq, Int.reduceToNat, reduceCtorEq]
  try simp -implicitDefEqProofs only [go_sem, Nat.reduceBEq, Nat.reduceAdd, Nat.reduceSub, Nat.reduceMul, Nat.reduceLeDiff, Nat.reduceEqDiff, Nat.reduceLT, Int.reduceNeg, Int.reduceAdd, Int.reduceSub, Int.reduceMul, Int.reduceLE, Int.reduceLT, Int.reduceEq, Int.reduceToNat, reduceCtorEq] at hl
  rw [hl]
  rcases own_cases k2 with ⟨c', rfl⟩ | ⟨id, st, n, clip, rfl⟩
  · simp -implicitDefEqProofs (disch := first | omega | assumption) only [go_sem, Nat.reduceBEq, Nat.reduceAdd, Nat.reduceSub, Nat.reduceMul, Nat.reduceLeDiff, Nat.reduceEqDiff, Nat.reduceLT, Int.reduceNeg, Int.reduceAdd, Int.reduceSub, Int.reduceMul, Int.reduceLE, Int.reduceLT, Int.reduceEq, Int.reduceToNat, reduceCtorEq, k1, resOk]
  · simp -implicitDefEqProofs (disch := first | omega | assumption) only [go_sem, Nat.reduceBEq, Nat.reduceAdd, Nat.reduceSub, Nat.reduceMul, Nat.reduceLeDiff, Nat.reduceEqDiff, Nat.reduceLT, Int.reduceNeg, Int.reduceAdd, Int.reduceSub, Int.reduceMul, Int.reduceLE, Int.reduceLT, Int.reduceEq, Int.reduceToNat, reduceCtorEq, k1, resOk]
-- find48
theorem own_notIn (d : Nat) (c1 c2 c3 c4 : Bool) (ca cb : List Col) (a b : List Row) (i j : Int) (h1 : ca.length < 4294967296) (h2 : cb.length < 4294967296) (fa : Fine a) (fb : Fine b) (sa : Short a) (sb : Short b) :
    ∃ w h' ids, runD tab noExt (d + 15) 48 [.sl c1 2 (ca.map Col.cells), .sl c2 2 (cb.map Col.cells), .sl c3 1 (a.map Row.cells), .sl c4 1 (b.map Row.cells), .int .i64 i, .int .i64 j] [] = some ([w], h') ∧ OwnF h' (.sub fdValueS) w (.sub ((notRows ca cb a b i j 0).map rowU)) ids ∧ ids.Nodup := by
  rw [runD_eq find48 _ _ _ (by simp)]
  have hj := run_joinOk d c1 c2 c3 c4 ca cb a b i j h1 h2 fa.1 fb.1 sa sb
  unfold notRows
  cases g : joinR ca cb a b i j
  · refine ⟨.sl true 1 [], [.box [.sl c4 1 (b.map Row.cells)], .box [.int .i64 i], .box [.int .i64 j]], [], ?_, own_nil rfl, List.nodup_nil⟩
    simp -implicitDefEqProofs (disch := omega) only [go_sem, Nat.reduceBEq, Nat.reduceAdd, Nat.reduceSub, Nat.reduceMul, Nat.reduceLeDiff, Nat.reduceEqDiff, Nat.reduceLT, Int.reduceNeg, Int.reduceAdd, Int.reduceSub, Int.reduceMul, Int.reduceLE, Int.reduceLT, Int.reduceEq, Int.reduceToNat, reduceCtorEq, hj, g]
  · obtain ⟨ra, rb, hi, hjj, _⟩ := joinR_of g
    obtain ⟨w, h', ids, hk, k2, k3⟩ := own_kept (d + 10) c3 c4 101 a b i j (inP b i j 0) fa (fun x hx st l => clo_notIn (d + 5) c4 b i j x st l fb.1 (hasCol_of rb hjj.1 hjj.2) hi.1 ((hasCol_of ra hi.1 hi.2).2 x hx))
    refine ⟨w, h', ids, ?_, k2, k3⟩
    rcases own_cases k2 with ⟨c', rfl⟩ | ⟨id, st, n, clip, rfl⟩ <;> simp -implicitDefEqProofs (disch := omega) only [go_sem, Nat.reduceBEq, Nat.reduceAdd, Nat.reduceSub, Nat.reduceMul, Nat.reduceLeDiff, Nat.reduceEqDiff, Nat.reduceLT, Int.reduceNeg, Int.reduceAdd, Int.reduceSub, Int.reduceMul, Int.reduceLE, Int.reduceLT, Int.reduceEq, Int.reduceToNat, reduceCtorEq, hj, g, hk]
-- find52
theorem own_inRows (d : Nat) (c1 c2 c3 c4 : Bool) (ca cb : List Col) (a b : List Row) (i j : Int) (h1 : ca.length < 4294967296) (h2 : cb.length < 4294967296) (fa : Fine a) (fb : Fine b) (sa : Short a) (sb : Short b) :
    ∃ w h' ids, runD tab noExt (d + 15) 52 [.sl c1 2 (ca.map Col.cells), .sl c2 2 (cb.map Col.cells), .sl c3 1 (a.map Row.cells), .sl c4 1 (b.map Row.cells), .int .i64 i, .int .i64 j] [] = some ([w], h') ∧ OwnF h' (.sub fdValueS) w (.sub ((notRows ca cb a b i j 1).map rowU)) ids ∧ ids.Nodup := by
  rw [runD_eq find52 _ _ _ (by simp)]
  have hj := run_joinOk d c1 c2 c3 c4 ca cb a b i j h1 h2 fa.1 fb.1 sa sb
  unfold notRows
  cases g : joinR ca cb a b i j
  · refine ⟨.sl true 1 [], [.box [.sl c4 1 (b.map Row.cells)], .box [.int .i64 i], .box [.int .i64 j]], [], ?_, own_nil rfl, List.nodup_nil⟩
    simp -implicitDefEqProofs (disch := omega) only [go_sem, Nat.reduceBEq, Nat.reduceAdd, Nat.reduceSub, Nat.reduceMul, Nat.reduceLeDiff, Nat.reduceEqDiff, Nat.reduceLT, Int.reduceNeg, Int.reduceAdd, Int.reduceSub, Int.reduceMul, Int.reduceLE, Int.reduceLT, Int.reduceEq, Int.reduceToNat, reduceCtorEq, hj, g]
  · obtain ⟨ra, rb, hi, hjj, _⟩ := joinR_of g
    obtain ⟨w, h', ids, hk, k2, k3⟩ := own_kept (d + 10) c3 c4 112 a b i j (inP b i j 1) fa (fun x hx st l => clo_inRows (d + 5) c4 b i j x st l fb.1 (hasCol_of rb hjj.1 hjj.2) hi.1 ((hasCol_of ra hi.1 hi.2).2 x hx))
    refine ⟨w, h', ids, ?_, k2, k3⟩
    rcases own_cases k2 with ⟨c', rfl⟩ | ⟨id, st, n, clip, rfl⟩ <;> simp -implicitDefEqProofs (disch := omega) only [go_sem, Nat.reduceBEq, Nat.reduceAdd, Nat.reduceSub, Nat.reduceMul, Nat.reduceLeDiff, Nat.reduceEqDiff, Nat.reduceLT, Int.reduceNeg, Int.reduceAdd, Int.reduceSub, Int.reduceMul, Int.reduceLE, Int.reduceLT, Int.reduceEq, Int.reduceToNat, reduceCtorEq, hj, g, hk]
end Go.Proofs.Ytgepapgabnaonaa.PE
/- Rows whose value is in a list or out of it: what both functions come to, of trees. -/
set_option linter.unusedVariables false
set_option linter.unusedSimpArgs false
set_option maxHeartbeats 4000000
namespace Go.Proofs.Ytgepapgabnaonaa.PE
open Go.RowKit

theorem AllU_sub {α : Type} {P : List U → Prop} {g : α → List U} : ∀ {l : List α}, AllU P (l.map g) → ∀ {l2 : List α}, (∀ x ∈ l2, x ∈ l) → AllU P (l2.map g)
  | l, h, [], _ => trivial
  | l, h, x :: r, hs => by
    refine ⟨?_, AllU_sub h (fun y hy => hs y (List.mem_cons_of_mem _ hy))⟩
    obtain ⟨i, hi⟩ := List.getElem?_of_mem (hs x List.mem_cons_self)
    exact AllU_at h (map_at g hi)
theorem sum_leP {P : List U → Prop} {c : List U → Nat} {n : Nat} (h : ∀ x, P x → c x ≤ n) : ∀ {xs : List (List U)}, AllU P xs → sumU c xs ≤ n * xs.length
  | [], _ => by simp [sumU]
  | x :: xs, ⟨h1, h2⟩ => by
    have := sum_leP h h2
    have := h x h1
    simp only [sumU, List.length_cons, Nat.mul_add, Nat.mul_one]
    omega
theorem cnt_vsU (vs : List Val) : cntR fdValueS (vsU vs) ≤ 4 + 3 * vs.length := by
  have : sumU (cntR fdValue) (vs.map valU) ≤ 3 * (vs.map valU).length := by
    induction vs with
    | nil => simp [sumU]
    | cons p ls ih =>
      have e : cntR fdValue (valU p) = 3 := rfl
      simp only [List.map_cons, sumU, e, List.length_cons]
      omega
  rw [List.length_map] at this
  simp only [vsU, fdValueS, cntR, cntF]
  omega
/-- What a size says of rows. -/
theorem rows_lim {rs : List Row} (L : LenF 1048576 1048576 (.sub fdValueS) (.sub (rs.map rowU))) : Fine rs ∧ Short rs ∧ (∀ r ∈ rs, r.vs.length ≤ 1048576) ∧ rs.length ≤ 1048576 := by
  simp only [LenF, List.length_map] at L
  have key : ∀ r ∈ rs, r.vs.length ≤ 1048576 ∧ AllU (LenR 1048576 1048576 fdValue) (r.vs.map valU) := by
    intro r hr
    obtain ⟨i, hi⟩ := List.getElem?_of_mem hr
    have := AllU_at L.2 (map_at rowU hi)
    simp only [fdValueS, rowU, vsU, LenR, LenF, List.length_map, and_true] at this
    exact this
  refine ⟨⟨by omega, fun r hr => by have := (key r hr).1; omega⟩, fun r hr => ⟨by have := (key r hr).1; omega, fun v hv => ?_⟩, fun r hr => (key r hr).1, L.1⟩
  obtain ⟨i, hi⟩ := List.getElem?_of_mem hv
  have := AllU_at (key r hr).2 (map_at valU hi)
  simp only [fdValue, valU, LenR, LenF, true_and, and_true] at this
  omega
theorem rows_res {rs : List Row} (L : LenF 1048576 1048576 (.sub fdValueS) (.sub (rs.map rowU))) {l2 : List Row} (hn : l2.length ≤ rs.length) (hs : ∀ x ∈ l2, x ∈ rs) : LenF big big (.sub fdValueS) (.sub (l2.map rowU)) ∧ (cntF (.sub fdValueS) (.sub (l2.map rowU)) : Int) ≤ 2305843009213693952 := by
  obtain ⟨-, -, k1, k2⟩ := rows_lim L
  have L2 : LenF 1048576 1048576 (.sub fdValueS) (.sub (l2.map rowU)) := by
    simp only [LenF, List.length_map] at L ⊢
    exact ⟨by omega, AllU_sub L.2 hs⟩
  refine ⟨LenF_mono (by decide) (by decide) _ L2, ?_⟩
  have : AllU (fun x => cntR fdValueS x ≤ 4194304) (l2.map rowU) := by
    have : ∀ l : List Row, (∀ x ∈ l, x ∈ rs) → AllU (fun x => cntR fdValueS x ≤ 4194304) (l.map rowU) := by
      intro l
      induction l with
      | nil => intro _; trivial
      | cons r l ih =>
        intro h
        refine ⟨?_, ih (fun x hx => h x (List.mem_cons_of_mem _ hx))⟩
        have := k1 r (h r List.mem_cons_self)
        have := cnt_vsU r.vs
        unfold rowU
        omega
    exact this l2 hs
  have := sum_leP (fun x h => h) this
  rw [List.length_map] at this
  simp only [cntF]
  omega
theorem own_map (c : Bool) (rs : List Row) : PurF (.sub fdValueS) (.sl false 1 ((own c rs).map Row.cells)) (.sub (rs.map rowU)) := by
  have h := pur_map row_pur false 1 rfl (own c rs)
  have e : (own c rs).map (fun r => vsU r.vs) = rs.map rowU := by simp [own, Row.own, rowU]
  rw [e] at h
  exact h
theorem rows_each {rs : List Row} {q : V} (k : PurF (.sub fdValueS) q (.sub (rs.map rowU))) : ∃ (c : Bool) (rs2 : List Row), q = .sl c 1 (rs2.map Row.cells) ∧ rs2.map rowU = rs.map rowU := by
  obtain ⟨c, _, rfl, y0⟩ := purS_ValueS k
  obtain ⟨rs', rfl, e0⟩ := rowsU_of y0
  exact ⟨c, rs', rfl, e0.symm⟩
theorem vss_of {a b : List Row} (h : a.map rowU = b.map rowU) : a.map Row.vs = b.map Row.vs := by
  have : (a.map Row.vs).map vsU = (b.map Row.vs).map vsU := by rw [List.map_map, List.map_map]; exact h
  exact map_inj (fun _ _ => vsU_inj) this
/-- Only the values of rows matter. -/
theorem filter_vs {P : Row → Bool} (hP : ∀ x y : Row, x.vs = y.vs → P x = P y) : ∀ {a b : List Row}, a.map Row.vs = b.map Row.vs → (a.filter P).map rowU = (b.filter P).map rowU
  | [], [], _ => rfl
  | x :: a, y :: b, h => by
    simp only [List.map_cons, List.cons.injEq] at h
    have ih := filter_vs hP h.2
    have e := hP x y h.1
    have e2 : rowU x = rowU y := by unfold rowU; rw [h.1]
    rw [List.filter_cons, List.filter_cons, e]
    cases P y <;> simp [ih, e2]
  | [], _ :: _, h => by simp at h
  | _ :: _, [], h => by simp at h
theorem valsAt_vs {j : Int} : ∀ {a b : List Row}, a.map Row.vs = b.map Row.vs → valsAt j a = valsAt j b
  | [], [], _ => rfl
  | x :: a, y :: b, h => by
    simp only [List.map_cons, List.cons.injEq] at h
    have ih : valsAt j a = valsAt j b := valsAt_vs h.2
    simp only [valsAt, List.map_cons, valAt, h.1] at ih ⊢
    rw [ih]
  | [], _ :: _, h => by simp at h
  | _ :: _, [], h => by simp at h
theorem all_vs {P : List Val → Bool} : ∀ {a b : List Row}, a.map Row.vs = b.map Row.vs → (a.all fun r => P r.vs) = (b.all fun r => P r.vs)
  | [], [], _ => rfl
  | x :: a, y :: b, h => by
    simp only [List.map_cons, List.cons.injEq] at h
    rw [List.all_cons, List.all_cons, h.1, all_vs h.2]
  | [], _ :: _, h => by simp at h
  | _ :: _, [], h => by simp at h
theorem inP_vs {b b2 : List Row} {i j t : Int} (hb : b.map Row.vs = b2.map Row.vs) {x y : Row} (h : x.vs = y.vs) : inP b i j t x = inP b2 i j t y := by
  unfold inP valAt
  rw [h, valsAt_vs hb]
theorem rowsOk_vs {cs : List Col} {a b : List Row} (h : a.map Row.vs = b.map Row.vs) : rowsOk cs a = rowsOk cs b := by
  unfold rowsOk rowsFit
  rw [all_vs h]
theorem joinR_vs {ca cb : List Col} {a b a2 b2 : List Row} {i j : Int} (ha : a.map Row.vs = a2.map Row.vs) (hb : b.map Row.vs = b2.map Row.vs) : joinR ca cb a b i j = joinR ca cb a2 b2 i j := by
  have l1 : a.length = a2.length := by have := congrArg List.length ha; simpa using this
  have l2 : b.length = b2.length := by have := congrArg List.length hb; simpa using this
  unfold joinR
  rw [rowsOk_vs ha, rowsOk_vs hb, l1, l2]
theorem notRows_vs {ca cb : List Col} {a b a2 b2 : List Row} {i j t : Int} (ha : a.map rowU = a2.map rowU) (hb : b.map rowU = b2.map rowU) : (notRows ca cb a b i j t).map rowU = (notRows ca cb a2 b2 i j t).map rowU := by
  have ha := vss_of ha
  have hb := vss_of hb
  unfold notRows
  rw [joinR_vs ha hb]
  cases joinR ca cb a2 b2 i j
  · rfl
  · simp only [if_true]
    rw [filter_vs (P := inP b i j t) (fun x y h => inP_vs rfl h) ha, show inP b i j t = inP b2 i j t from funext fun x => inP_vs hb rfl]
theorem notRows_sub {ca cb : List Col} {a b : List Row} {i j t : Int} : (notRows ca cb a b i j t).length ≤ a.length ∧ ∀ x ∈ notRows ca cb a b i j t, x ∈ a := by
  unfold notRows
  cases joinR ca cb a b i j
  · simp
  · exact ⟨List.length_filter_le _ _, fun x hx => (List.mem_filter.1 hx).1⟩
theorem cols_each {cs : List Col} {q : V} (k : PurF (.sub fdColumn) q (.sub (cs.map colU))) : ∃ c, q = .sl c 2 (cs.map Col.cells) := by
  obtain ⟨c, _, rfl, y0⟩ := purS_Column k
  obtain ⟨cs', rfl, e0⟩ := colsU_of y0
  obtain rfl := map_inj (fun _ _ => colU_inj) e0
  exact ⟨c, rfl⟩
theorem lim_of {a b : List Row} (e : a.map rowU = b.map rowU) (L : LenF 1048576 1048576 (.sub fdValueS) (.sub (b.map rowU))) : Fine a ∧ Short a := by
  rw [← e] at L
  obtain ⟨h1, h2, _⟩ := rows_lim L
  exact ⟨h1, h2⟩
theorem core_InRows {x0 x1 x2 x3 : List (List U)} (h0 : ∃ p, PurF (.sub fdColumn) p (.sub x0)) (L0 : LenF 1048576 1048576 (.sub fdColumn) (.sub x0)) (h1 : ∃ p, PurF (.sub fdColumn) p (.sub x1)) (L1 : LenF 1048576 1048576 (.sub fdColumn) (.sub x1)) (h2 : ∃ p, PurF (.sub fdValueS) p (.sub x2)) (L2 : LenF 1048576 1048576 (.sub fdValueS) (.sub x2)) (h3 : ∃ p, PurF (.sub fdValueS) p (.sub x3)) (L3 : LenF 1048576 1048576 (.sub fdValueS) (.sub x3)) (n4 n5 : Int) (i4 : -9223372036854775808 ≤ n4 ∧ n4 ≤ 9223372036854775807) (i5 : -9223372036854775808 ≤ n5 ∧ n5 ≤ 9223372036854775807) :
    ∃ ux, LenF big big (.sub fdValueS) (.sub ux) ∧ (cntF (.sub fdValueS) (.sub ux) : Int) ≤ 2305843009213693952 ∧
      (∀ {q0 q1 q2 q3 : V}, PurF (.sub fdColumn) q0 (.sub x0) → PurF (.sub fdColumn) q1 (.sub x1) → PurF (.sub fdValueS) q2 (.sub x2) → PurF (.sub fdValueS) q3 (.sub x3) → ∃ w, retP (runD tab noExt 60) 55 [q0, q1, q2, q3, .int .i64 n4, .int .i64 n5] = some [w] ∧ PurF (.sub fdValueS) w (.sub ux)) ∧
      (∀ {q0 q1 q2 q3 : V}, PurF (.sub fdColumn) q0 (.sub x0) → PurF (.sub fdColumn) q1 (.sub x1) → PurF (.sub fdValueS) q2 (.sub x2) → PurF (.sub fdValueS) q3 (.sub x3) → ∃ v hc ids, runD tab noExt 60 52 [q0, q1, q2, q3, .int .i64 n4, .int .i64 n5] [] = some ([v], hc) ∧ OwnF hc (.sub fdValueS) v (.sub ux) ids ∧ ids.Nodup) := by
  obtain ⟨p0, g0⟩ := h0
  obtain ⟨p1, g1⟩ := h1
  obtain ⟨p2, g2⟩ := h2
  obtain ⟨p3, g3⟩ := h3
  obtain ⟨_, _, _, z0⟩ := purS_Column g0
  obtain ⟨_, _, _, z1⟩ := purS_Column g1
  obtain ⟨_, _, _, z2⟩ := purS_ValueS g2
  obtain ⟨_, _, _, z3⟩ := purS_ValueS g3
  obtain ⟨ca, rfl, rfl⟩ := colsU_of z0
  obtain ⟨cb, rfl, rfl⟩ := colsU_of z1
  obtain ⟨a, rfl, rfl⟩ := rowsU_of z2
  obtain ⟨b, rfl, rfl⟩ := rowsU_of z3
  have e2 : a.map (fun r => vsU r.vs) = a.map rowU := rfl
  have e3 : b.map (fun r => vsU r.vs) = b.map rowU := rfl
  rw [e2] at L2 ⊢
  rw [e3] at L3 ⊢
  simp only [LenF, List.length_map] at L0 L1
  have l0 := L0.1
  have l1 := L1.1
  obtain ⟨r1, r2⟩ := rows_res L2 (notRows_sub (ca := ca) (cb := cb) (a := a) (b := b) (i := n4) (j := n5) (t := 1)).1 notRows_sub.2
  refine ⟨(notRows ca cb a b n4 n5 1).map rowU, r1, r2, fun k0 k1 k2 k3 => ?_, fun k0 k1 k2 k3 => ?_⟩
  all_goals
    obtain ⟨c0, rfl⟩ := cols_each k0
    obtain ⟨c1, rfl⟩ := cols_each k1
    obtain ⟨c2, a2, rfl, f2⟩ := rows_each k2
    obtain ⟨c3, b2, rfl, f3⟩ := rows_each k3
    obtain ⟨s1, s2⟩ := lim_of f2 L2
    obtain ⟨s3, s4⟩ := lim_of f3 L3
    rw [← notRows_vs f2 f3]
  · exact ⟨_, run_inRowsR 52 c0 c1 c2 c3 ca cb a2 b2 n4 n5 (by omega) (by omega) s1 s3 s2 s4, own_map false _⟩
  · exact own_inRows 45 c0 c1 c2 c3 ca cb a2 b2 n4 n5 (by omega) (by omega) s1 s3 s2 s4
theorem core_NotInRows {x0 x1 x2 x3 : List (List U)} (h0 : ∃ p, PurF (.sub fdColumn) p (.sub x0)) (L0 : LenF 1048576 1048576 (.sub fdColumn) (.sub x0)) (h1 : ∃ p, PurF (.sub fdColumn) p (.sub x1)) (L1 : LenF 1048576 1048576 (.sub fdColumn) (.sub x1)) (h2 : ∃ p, PurF (.sub fdValueS) p (.sub x2)) (L2 : LenF 1048576 1048576 (.sub fdValueS) (.sub x2)) (h3 : ∃ p, PurF (.sub fdValueS) p (.sub x3)) (L3 : LenF 1048576 1048576 (.sub fdValueS) (.sub x3)) (n4 n5 : Int) (i4 : -9223372036854775808 ≤ n4 ∧ n4 ≤ 9223372036854775807) (i5 : -9223372036854775808 ≤ n5 ∧ n5 ≤ 9223372036854775807) :
    ∃ ux, LenF big big (.sub fdValueS) (.sub ux) ∧ (cntF (.sub fdValueS) (.sub ux) : Int) ≤ 2305843009213693952 ∧
      (∀ {q0 q1 q2 q3 : V}, PurF (.sub fdColumn) q0 (.sub x0) → PurF (.sub fdColumn) q1 (.sub x1) → PurF (.sub fdValueS) q2 (.sub x2) → PurF (.sub fdValueS) q3 (.sub x3) → ∃ w, retP (runD tab noExt 60) 50 [q0, q1, q2, q3, .int .i64 n4, .int .i64 n5] = some [w] ∧ PurF (.sub fdValueS) w (.sub ux)) ∧
      (∀ {q0 q1 q2 q3 : V}, PurF (.sub fdColumn) q0 (.sub x0) → PurF (.sub fdColumn) q1 (.sub x1) → PurF (.sub fdValueS) q2 (.sub x2) → PurF (.sub fdValueS) q3 (.sub x3) → ∃ v hc ids, runD tab noExt 60 48 [q0, q1, q2, q3, .int .i64 n4, .int .i64 n5] [] = some ([v], hc) ∧ OwnF hc (.sub fdValueS) v (.sub ux) ids ∧ ids.Nodup) := by
  obtain ⟨p0, g0⟩ := h0
  obtain ⟨p1, g1⟩ := h1
  obtain ⟨p2, g2⟩ := h2
  obtain ⟨p3, g3⟩ := h3
  obtain ⟨_, _, _, z0⟩ := purS_Column g0
  obtain ⟨_, _, _, z1⟩ := purS_Column g1
  obtain ⟨_, _, _, z2⟩ := purS_ValueS g2
  obtain ⟨_, _, _, z3⟩ := purS_ValueS g3
  obtain ⟨ca, rfl, rfl⟩ := colsU_of z0
  obtain ⟨cb, rfl, rfl⟩ := colsU_of z1
  obtain ⟨a, rfl, rfl⟩ := rowsU_of z2
  obtain ⟨b, rfl, rfl⟩ := rowsU_of z3
  have e2 : a.map (fun r => vsU r.vs) = a.map rowU := rfl
  have e3 : b.map (fun r => vsU r.vs) = b.map rowU := rfl
  rw [e2] at L2 ⊢
  rw [e3] at L3 ⊢
  simp only [LenF, List.length_map] at L0 L1
  have l0 := L0.1
  have l1 := L1.1
  obtain ⟨r1, r2⟩ := rows_res L2 (notRows_sub (ca := ca) (cb := cb) (a := a) (b := b) (i := n4) (j := n5) (t := 0)).1 notRows_sub.2
  refine ⟨(notRows ca cb a b n4 n5 0).map rowU, r1, r2, fun k0 k1 k2 k3 => ?_, fun k0 k1 k2 k3 => ?_⟩
  all_goals
    obtain ⟨c0, rfl⟩ := cols_each k0
    obtain ⟨c1, rfl⟩ := cols_each k1
    obtain ⟨c2, a2, rfl, f2⟩ := rows_each k2
    obtain ⟨c3, b2, rfl, f3⟩ := rows_each k3
    obtain ⟨s1, s2⟩ := lim_of f2 L2
    obtain ⟨s3, s4⟩ := lim_of f3 L3
    rw [← notRows_vs f2 f3]
  · exact ⟨_, run_notInR 52 c0 c1 c2 c3 ca cb a2 b2 n4 n5 (by omega) (by omega) s1 s3 s2 s4, own_map false _⟩
  · exact own_notIn 45 c0 c1 c2 c3 ca cb a2 b2 n4 n5 (by omega) (by omega) s1 s3 s2 s4
end Go.Proofs.Ytgepapgabnaonaa.PE
/- The exact statement of FnExactInRows. -/
set_option linter.unusedVariables false
set_option linter.unusedSimpArgs false
set_option maxHeartbeats 8000000
namespace Go.Proofs.Ytgepapgabnaonaa.PE
open Go.RowKit

-- find12
theorem law_FnExactInRows {p0 : V} {x0 : List (List U)} {p1 : V} {x1 : List (List U)} {p2 : V} {x2 : List (List U)} {p3 : V} {x3 : List (List U)} (n4 : Int) (n5 : Int) (g0 : PurF (.sub fdColumn) p0 (.sub x0)) (B0 : LenF 9223372036854775807 9223372036854775807 (.sub fdColumn) (.sub x0)) (g1 : PurF (.sub fdColumn) p1 (.sub x1)) (B1 : LenF 9223372036854775807 9223372036854775807 (.sub fdColumn) (.sub x1)) (g2 : PurF (.sub fdValueS) p2 (.sub x2)) (B2 : LenF 9223372036854775807 9223372036854775807 (.sub fdValueS) (.sub x2)) (g3 : PurF (.sub fdValueS) p3 (.sub x3)) (B3 : LenF 9223372036854775807 9223372036854775807 (.sub fdValueS) (.sub x3)) (i4 : -9223372036854775808 ≤ n4 ∧ n4 ≤ 9223372036854775807) (i5 : -9223372036854775808 ≤ n5 ∧ n5 ≤ 9223372036854775807) : ∃ d h1, runD tab noExt d 12 [p0, p1, p2, p3, .int .i64 n4, .int .i64 n5] [] = some ([.bool true], h1) := by
  refine ⟨61, ?_⟩
  rw [runD_eq find12 _ _ _ (by simp)]
  obtain ⟨cl0, ct0, rfl, hz0⟩ := purS_Column g0
  have hl0 := Zip2_len hz0
  obtain ⟨cl1, ct1, rfl, hz1⟩ := purS_Column g1
  have hl1 := Zip2_len hz1
  obtain ⟨cl2, ct2, rfl, hz2⟩ := purS_ValueS g2
  have hl2 := Zip2_len hz2
  obtain ⟨cl3, ct3, rfl, hz3⟩ := purS_ValueS g3
  have hl3 := Zip2_len hz3
  have z0 := run_szColumnS 59 (1048576) g0 B0 (by omega) (by omega)
  have y0 := szF_spec (N := 1048576) (.sub fdColumn) (.sub x0) (1048576) (by decide) (by omega)
  generalize szF (.sub fdColumn) (.sub x0) (1048576) = l0 at z0 y0
  by_cases q0 : l0 < 0
  · simp -implicitDefEqProofs (disch := omega) only [go_sem, Nat.reduceBEq, Nat.reduceAdd, Nat.reduceSub, Nat.reduceMul, Nat.reduceLeDiff, Nat.reduceEqDiff, Nat.reduceLT, Int.reduceNeg, Int.reduceAdd, Int.reduceSub, Int.reduceMul, Int.reduceLE, Int.reduceLT, Int.reduceEq, Int.reduceToNat, reduceCtorEq, z0, q0]
    exact ⟨_, rfl⟩
  obtain ⟨y0a, L0, y0c⟩ := y0 (by omega) (by omega)
  have z1 := run_szColumnS 59 (l0) g1 B1 (by omega) (by omega)
  have y1 := szF_spec (N := 1048576) (.sub fdColumn) (.sub x1) (l0) (by decide) (by omega)
  generalize szF (.sub fdColumn) (.sub x1) (l0) = l1 at z1 y1
  by_cases q1 : l1 < 0
  · simp -implicitDefEqProofs (disch := omega) only [go_sem, Nat.reduceBEq, Nat.reduceAdd, Nat.reduceSub, Nat.reduceMul, Nat.reduceLeDiff, Nat.reduceEqDiff, Nat.reduceLT, Int.reduceNeg, Int.reduceAdd, Int.reduceSub, Int.reduceMul, Int.reduceLE, Int.reduceLT, Int.reduceEq, Int.reduceToNat, reduceCtorEq, z0, q0, z1, q1]
    exact ⟨_, rfl⟩
  obtain ⟨y1a, L1, y1c⟩ := y1 (by omega) (by omega)
  have z2 := run_szValueSS 57 (l1) g2 B2 (by omega) (by omega)
  have y2 := szF_spec (N := 1048576) (.sub fdValueS) (.sub x2) (l1) (by decide) (by omega)
  generalize szF (.sub fdValueS) (.sub x2) (l1) = l2 at z2 y2
  by_cases q2 : l2 < 0
  · simp -implicitDefEqProofs (disch := omega) only [go_sem, Nat.reduceBEq, Nat.reduceAdd, Nat.reduceSub, Nat.reduceMul, Nat.reduceLeDiff, Nat.reduceEqDiff, Nat.reduceLT, Int.reduceNeg, Int.reduceAdd, Int.reduceSub, Int.reduceMul, Int.reduceLE, Int.reduceLT, Int.reduceEq, Int.reduceToNat, reduceCtorEq, z0, q0, z1, q1, z2, q2]
    exact ⟨_, rfl⟩
  obtain ⟨y2a, L2, y2c⟩ := y2 (by omega) (by omega)
  have z3 := run_szValueSS 57 (l2) g3 B3 (by omega) (by omega)
  have y3 := szF_spec (N := 1048576) (.sub fdValueS) (.sub x3) (l2) (by decide) (by omega)
  generalize szF (.sub fdValueS) (.sub x3) (l2) = l3 at z3 y3
  by_cases q3 : l3 < 0
  · simp -implicitDefEqProofs (disch := omega) only [go_sem, Nat.reduceBEq, Nat.reduceAdd, Nat.reduceSub, Nat.reduceMul, Nat.reduceLeDiff, Nat.reduceEqDiff, Nat.reduceLT, Int.reduceNeg, Int.reduceAdd, Int.reduceSub, Int.reduceMul, Int.reduceLE, Int.reduceLT, Int.reduceEq, Int.reduceToNat, reduceCtorEq, z0, q0, z1, q1, z2, q2, z3, q3]
    exact ⟨_, rfl⟩
  obtain ⟨y3a, L3, y3c⟩ := y3 (by omega) (by omega)
  have M0 := LenF_mono (n' := big) (m' := big) (by decide) (by decide) _ L0
  have P0 : x0.length ≤ 1048576 ∧ AllU (LenR 1048576 1048576 fdColumn) x0 := by simpa only [LenF] using L0
  have M1 := LenF_mono (n' := big) (m' := big) (by decide) (by decide) _ L1
  have P1 : x1.length ≤ 1048576 ∧ AllU (LenR 1048576 1048576 fdColumn) x1 := by simpa only [LenF] using L1
  have M2 := LenF_mono (n' := big) (m' := big) (by decide) (by decide) _ L2
  have P2 : x2.length ≤ 1048576 ∧ AllU (LenR 1048576 1048576 fdValueS) x2 := by simpa only [LenF] using L2
  have M3 := LenF_mono (n' := big) (m' := big) (by decide) (by decide) _ L3
  have P3 : x3.length ≤ 1048576 ∧ AllU (LenR 1048576 1048576 fdValueS) x3 := by simpa only [LenF] using L3
  obtain ⟨ux, C1, C2, cS, cI⟩ := core_InRows ⟨_, g0⟩ L0 ⟨_, g1⟩ L1 ⟨_, g2⟩ L2 ⟨_, g3⟩ L3 n4 n5 i4 i5
  obtain ⟨v0, c0, d0, r0, o0, n0'⟩ := run_toColumnS 58 g0 P0.1 P0.2
  obtain ⟨t0, h0, s0, e0, a0, u0, w0, f0, m0⟩ := own_call (h := ([] : Heap)) (args := [(.sl cl0 2 ct0)]) (by simp only [pureDAs, mapO, pureDA_pur g0]) r0 o0 n0'
  have b0 := own_ids a0 w0
  obtain ⟨v1, c1, d1, r1, o1, n1'⟩ := run_toColumnS 58 g1 P1.1 P1.2
  obtain ⟨t1, h1, s1, e1, a1, u1, w1, f1, m1⟩ := own_call (h := h0) (args := [(.sl cl1 2 ct1)]) (by simp only [pureDAs, mapO, pureDA_pur g1]) r1 o1 n1'
  have b1 := own_ids a1 w1
  have o1x := OwnF_frame _ a0 (fun j hj => f1 j (OwnF_lt _ a0 j hj))
  obtain ⟨v2, c2, d2, r2, o2, n2'⟩ := run_toValueSS 57 g2 P2.1 P2.2
  obtain ⟨t2, h2, s2, e2, a2, u2, w2, f2, m2⟩ := own_call (h := h1) (args := [(.sl cl2 1 ct2)]) (by simp only [pureDAs, mapO, pureDA_pur g2]) r2 o2 n2'
  have b2 := own_ids a2 w2
  have o2x := OwnF_frame _ o1x (fun j hj => f2 j (OwnF_lt _ o1x j hj))
  have o3x := OwnF_frame _ a1 (fun j hj => f2 j (OwnF_lt _ a1 j hj))
  obtain ⟨v3, c3, d3, r3, o3, n3'⟩ := run_toValueSS 57 g3 P3.1 P3.2
  obtain ⟨t3, h3, s3, e3, a3, u3, w3, f3, m3⟩ := own_call (h := h2) (args := [(.sl cl3 1 ct3)]) (by simp only [pureDAs, mapO, pureDA_pur g3]) r3 o3 n3'
  have b3 := own_ids a3 w3
  have o4x := OwnF_frame _ o2x (fun j hj => f3 j (OwnF_lt _ o2x j hj))
  have o5x := OwnF_frame _ o3x (fun j hj => f3 j (OwnF_lt _ o3x j hj))
  have o6x := OwnF_frame _ a2 (fun j hj => f3 j (OwnF_lt _ a2 j hj))
  obtain ⟨qs0, xs0, ys0⟩ := pureDA_own o4x (by decide)
  obtain ⟨qs1, xs1, ys1⟩ := pureDA_own o5x (by decide)
  obtain ⟨qs2, xs2, ys2⟩ := pureDA_own o6x (by decide)
  obtain ⟨qs3, xs3, ys3⟩ := pureDA_own a3 (by decide)
  obtain ⟨w, eS, gw⟩ := cS ys0 ys1 ys2 ys3
  obtain ⟨hd, eW⟩ := call_spec (h := h3) (args := [t0, t1, t2, t3, .int .i64 n4, .int .i64 n5]) (by simp only [pureDAs, mapO, xs0, xs1, xs2, xs3, pureDA_int, pureDA_bool, pureDA_str]) eS
  try simp only [oneOf] at eW
  obtain ⟨v4, c4, d4, r4, o4, n4'⟩ := run_toColumnS 58 g0 P0.1 P0.2
  obtain ⟨t4, h4, s4, e4, a4, u4, w4, f4, m4⟩ := own_call (h := hd) (args := [(.sl cl0 2 ct0)]) (by simp only [pureDAs, mapO, pureDA_pur g0]) r4 o4 n4'
  have b4 := own_ids a4 w4
  obtain ⟨v5, c5, d5, r5, o5, n5'⟩ := run_toColumnS 58 g1 P1.1 P1.2
  obtain ⟨t5, h5, s5, e5, a5, u5, w5, f5, m5⟩ := own_call (h := h4) (args := [(.sl cl1 2 ct1)]) (by simp only [pureDAs, mapO, pureDA_pur g1]) r5 o5 n5'
  have b5 := own_ids a5 w5
  have o7x := OwnF_frame _ a4 (fun j hj => f5 j (OwnF_lt _ a4 j hj))
  obtain ⟨v6, c6, d6, r6, o6, n6'⟩ := run_toValueSS 57 g2 P2.1 P2.2
  obtain ⟨t6, h6, s6, e6, a6, u6, w6, f6, m6⟩ := own_call (h := h5) (args := [(.sl cl2 1 ct2)]) (by simp only [pureDAs, mapO, pureDA_pur g2]) r6 o6 n6'
  have b6 := own_ids a6 w6
  have o8x := OwnF_frame _ o7x (fun j hj => f6 j (OwnF_lt _ o7x j hj))
  have o9x := OwnF_frame _ a5 (fun j hj => f6 j (OwnF_lt _ a5 j hj))
  obtain ⟨v7, c7, d7, r7, o7, n7'⟩ := run_toValueSS 57 g3 P3.1 P3.2
  obtain ⟨t7, h7, s7, e7, a7, u7, w7, f7, m7⟩ := own_call (h := h6) (args := [(.sl cl3 1 ct3)]) (by simp only [pureDAs, mapO, pureDA_pur g3]) r7 o7 n7'
  have b7 := own_ids a7 w7
  have o10x := OwnF_frame _ o8x (fun j hj => f7 j (OwnF_lt _ o8x j hj))
  have o11x := OwnF_frame _ o9x (fun j hj => f7 j (OwnF_lt _ o9x j hj))
  have o12x := OwnF_frame _ a6 (fun j hj => f7 j (OwnF_lt _ a6 j hj))
  obtain ⟨qg4, xg4, yg4⟩ := pureDA_own o10x (by decide)
  obtain ⟨qg5, xg5, yg5⟩ := pureDA_own o11x (by decide)
  obtain ⟨qg6, xg6, yg6⟩ := pureDA_own o12x (by decide)
  obtain ⟨qg7, xg7, yg7⟩ := pureDA_own a7 (by decide)
  obtain ⟨v8, c8, d8, r8, o8, n8'⟩ := cI yg4 yg5 yg6 yg7
  obtain ⟨t8, h8, s8, e8, a8, u8, w8, f8, m8⟩ := own_call (h := h7) (args := [t4, t5, t6, t7, .int .i64 n4, .int .i64 n5]) (by simp only [pureDAs, mapO, xg4, xg5, xg6, xg7, pureDA_int, pureDA_bool, pureDA_str]) r8 o8 n8'
  have b8 := own_ids a8 w8
  have o13x := OwnF_frame _ o10x (fun j hj => f8 j (OwnF_lt _ o10x j hj))
  have o14x := OwnF_frame _ o11x (fun j hj => f8 j (OwnF_lt _ o11x j hj))
  have o15x := OwnF_frame _ o12x (fun j hj => f8 j (OwnF_lt _ o12x j hj))
  have o16x := OwnF_frame _ a7 (fun j hj => f8 j (OwnF_lt _ a7 j hj))
  obtain ⟨qG1, xG1, yG1⟩ := pureDA_own a8 (by decide)
  have EG1 := call_bool (h := h8) (args := [t8, w]) (by simp only [pureDAs, mapO, xG1, pureDA_pur gw]) (run_eqValueSS 57 yG1 gw C1)
  obtain ⟨v9, c9, d9, r9, o9, n9'⟩ := run_toColumnS 58 g0 P0.1 P0.2
  obtain ⟨t9, h9, s9, e9, a9, u9, w9, f9, m9⟩ := own_call (h := h8) (args := [(.sl cl0 2 ct0)]) (by simp only [pureDAs, mapO, pureDA_pur g0]) r9 o9 n9'
  have b9 := own_ids a9 w9
  have o17x := OwnF_frame _ o13x (fun j hj => f9 j (OwnF_lt _ o13x j hj))
  have o18x := OwnF_frame _ o14x (fun j hj => f9 j (OwnF_lt _ o14x j hj))
  have o19x := OwnF_frame _ o15x (fun j hj => f9 j (OwnF_lt _ o15x j hj))
  have o20x := OwnF_frame _ o16x (fun j hj => f9 j (OwnF_lt _ o16x j hj))
  have o21x := OwnF_frame _ a8 (fun j hj => f9 j (OwnF_lt _ a8 j hj))
  obtain ⟨qA0, xA0, yA0⟩ := pureDA_own o17x (by decide)
  obtain ⟨qB0, xB0, yB0⟩ := pureDA_own a9 (by decide)
  have EA0 := call_bool (h := h9) (args := [t4, t9]) (by simp only [pureDAs, mapO, xA0, xB0]) (run_eqColumnS 58 yA0 yB0 M0)
  obtain ⟨v10, c10, d10, r10, o10, n10'⟩ := run_toColumnS 58 g1 P1.1 P1.2
  obtain ⟨t10, h10, s10, e10, a10, u10, w10, f10, m10⟩ := own_call (h := h9) (args := [(.sl cl1 2 ct1)]) (by simp only [pureDAs, mapO, pureDA_pur g1]) r10 o10 n10'
  have b10 := own_ids a10 w10
  have o22x := OwnF_frame _ o17x (fun j hj => f10 j (OwnF_lt _ o17x j hj))
  have o23x := OwnF_frame _ o18x (fun j hj => f10 j (OwnF_lt _ o18x j hj))
  have o24x := OwnF_frame _ o19x (fun j hj => f10 j (OwnF_lt _ o19x j hj))
  have o25x := OwnF_frame _ o20x (fun j hj => f10 j (OwnF_lt _ o20x j hj))
  have o26x := OwnF_frame _ o21x (fun j hj => f10 j (OwnF_lt _ o21x j hj))
  obtain ⟨qA1, xA1, yA1⟩ := pureDA_own o23x (by decide)
  obtain ⟨qB1, xB1, yB1⟩ := pureDA_own a10 (by decide)
  have EA1 := call_bool (h := h10) (args := [t5, t10]) (by simp only [pureDAs, mapO, xA1, xB1]) (run_eqColumnS 58 yA1 yB1 M1)
  obtain ⟨v11, c11, d11, r11, o11, n11'⟩ := run_toValueSS 57 g2 P2.1 P2.2
  obtain ⟨t11, h11, s11, e11, a11, u11, w11, f11, m11⟩ := own_call (h := h10) (args := [(.sl cl2 1 ct2)]) (by simp only [pureDAs, mapO, pureDA_pur g2]) r11 o11 n11'
  have b11 := own_ids a11 w11
  have o27x := OwnF_frame _ o22x (fun j hj => f11 j (OwnF_lt _ o22x j hj))
  have o28x := OwnF_frame _ o23x (fun j hj => f11 j (OwnF_lt _ o23x j hj))
  have o29x := OwnF_frame _ o24x (fun j hj => f11 j (OwnF_lt _ o24x j hj))
  have o30x := OwnF_frame _ o25x (fun j hj => f11 j (OwnF_lt _ o25x j hj))
  have o31x := OwnF_frame _ o26x (fun j hj => f11 j (OwnF_lt _ o26x j hj))
  obtain ⟨qA2, xA2, yA2⟩ := pureDA_own o29x (by decide)
  obtain ⟨qB2, xB2, yB2⟩ := pureDA_own a11 (by decide)
  have EA2 := call_bool (h := h11) (args := [t6, t11]) (by simp only [pureDAs, mapO, xA2, xB2]) (run_eqValueSS 57 yA2 yB2 M2)
  obtain ⟨v12, c12, d12, r12, o12, n12'⟩ := run_toValueSS 57 g3 P3.1 P3.2
  obtain ⟨t12, h12, s12, e12, a12, u12, w12, f12, m12⟩ := own_call (h := h11) (args := [(.sl cl3 1 ct3)]) (by simp only [pureDAs, mapO, pureDA_pur g3]) r12 o12 n12'
  have b12 := own_ids a12 w12
  have o32x := OwnF_frame _ o27x (fun j hj => f12 j (OwnF_lt _ o27x j hj))
  have o33x := OwnF_frame _ o28x (fun j hj => f12 j (OwnF_lt _ o28x j hj))
  have o34x := OwnF_frame _ o29x (fun j hj => f12 j (OwnF_lt _ o29x j hj))
  have o35x := OwnF_frame _ o30x (fun j hj => f12 j (OwnF_lt _ o30x j hj))
  have o36x := OwnF_frame _ o31x (fun j hj => f12 j (OwnF_lt _ o31x j hj))
  obtain ⟨qA3, xA3, yA3⟩ := pureDA_own o35x (by decide)
  obtain ⟨qB3, xB3, yB3⟩ := pureDA_own a12 (by decide)
  have EA3 := call_bool (h := h12) (args := [t7, t12]) (by simp only [pureDAs, mapO, xA3, xB3]) (run_eqValueSS 57 yA3 yB3 M3)
  obtain ⟨h13, z0x, e13, a13, k13, z13, f13, m13⟩ := run_markColumnS 59 o32x u4 M0 (k := (1 : Int)) (by omega) (by omega)
  have o37x := OwnF_frame _ o33x (fun j hj => f13 j (fun hm => by have z1 := b5 j hj; have z2 := b4 j hm; omega))
  have o38x := OwnF_frame _ o34x (fun j hj => f13 j (fun hm => by have z1 := b6 j hj; have z2 := b4 j hm; omega))
  have o39x := OwnF_frame _ o35x (fun j hj => f13 j (fun hm => by have z1 := b7 j hj; have z2 := b4 j hm; omega))
  have o40x := OwnF_frame _ o36x (fun j hj => f13 j (fun hm => by have z1 := b8 j hj; have z2 := b4 j hm; omega))
  obtain ⟨h14, z1x, e14, a14, k14, z14, f14, m14⟩ := run_markColumnS 59 o37x u5 M1 (k := ((1 : Int) + cntF (.sub fdColumn) (.sub x0))) (by omega) (by omega)
  have o41x := OwnF_frame _ a13 (fun j hj => f14 j (fun hm => by have z1 := b4 j hj; have z2 := b5 j hm; omega))
  have o42x := OwnF_frame _ o38x (fun j hj => f14 j (fun hm => by have z1 := b6 j hj; have z2 := b5 j hm; omega))
  have o43x := OwnF_frame _ o39x (fun j hj => f14 j (fun hm => by have z1 := b7 j hj; have z2 := b5 j hm; omega))
  have o44x := OwnF_frame _ o40x (fun j hj => f14 j (fun hm => by have z1 := b8 j hj; have z2 := b5 j hm; omega))
  obtain ⟨h15, z2x, e15, a15, k15, z15, f15, m15⟩ := run_markValueSS 57 o42x u6 M2 (k := (((1 : Int) + cntF (.sub fdColumn) (.sub x0)) + cntF (.sub fdColumn) (.sub x1))) (by omega) (by omega)
  have o45x := OwnF_frame _ o41x (fun j hj => f15 j (fun hm => by have z1 := b4 j hj; have z2 := b6 j hm; omega))
  have o46x := OwnF_frame _ a14 (fun j hj => f15 j (fun hm => by have z1 := b5 j hj; have z2 := b6 j hm; omega))
  have o47x := OwnF_frame _ o43x (fun j hj => f15 j (fun hm => by have z1 := b7 j hj; have z2 := b6 j hm; omega))
  have o48x := OwnF_frame _ o44x (fun j hj => f15 j (fun hm => by have z1 := b8 j hj; have z2 := b6 j hm; omega))
  obtain ⟨h16, z3x, e16, a16, k16, z16, f16, m16⟩ := run_markValueSS 57 o47x u7 M3 (k := ((((1 : Int) + cntF (.sub fdColumn) (.sub x0)) + cntF (.sub fdColumn) (.sub x1)) + cntF (.sub fdValueS) (.sub x2))) (by omega) (by omega)
  have o49x := OwnF_frame _ o45x (fun j hj => f16 j (fun hm => by have z1 := b4 j hj; have z2 := b7 j hm; omega))
  have o50x := OwnF_frame _ o46x (fun j hj => f16 j (fun hm => by have z1 := b5 j hj; have z2 := b7 j hm; omega))
  have o51x := OwnF_frame _ a15 (fun j hj => f16 j (fun hm => by have z1 := b6 j hj; have z2 := b7 j hm; omega))
  have o52x := OwnF_frame _ o48x (fun j hj => f16 j (fun hm => by have z1 := b8 j hj; have z2 := b7 j hm; omega))
  have K0 : ((((((1 : Int) + cntF (.sub fdColumn) (.sub x0)) + cntF (.sub fdColumn) (.sub x1)) + cntF (.sub fdValueS) (.sub x2)) + cntF (.sub fdValueS) (.sub x3)) < 0) = False := eq_false (by omega)
  obtain ⟨qG2, xG2, yG2⟩ := pureDA_own o52x (by decide)
  have EG2 := call_bool (h := h16) (args := [t8, w]) (by simp only [pureDAs, mapO, xG2, pureDA_pur gw]) (run_eqValueSS 57 yG2 gw C1)
  obtain ⟨h17, zG, e17, a17, k17, z17, f17, m17⟩ := run_markValueSS 57 o52x u8 C1 (k := 1) (by omega) (by omega)
  have o53x := OwnF_frame _ o49x (fun j hj => f17 j (fun hm => by have z1 := b4 j hj; have z2 := b8 j hm; omega))
  have o54x := OwnF_frame _ o50x (fun j hj => f17 j (fun hm => by have z1 := b5 j hj; have z2 := b8 j hm; omega))
  have o55x := OwnF_frame _ o51x (fun j hj => f17 j (fun hm => by have z1 := b6 j hj; have z2 := b8 j hm; omega))
  have o56x := OwnF_frame _ a16 (fun j hj => f17 j (fun hm => by have z1 := b7 j hj; have z2 := b8 j hm; omega))
  have K1 : ((1 : Int) + cntF (.sub fdValueS) (.sub ux) < 0) = False := eq_false (by omega)
  obtain ⟨qH1, xH1, yH1⟩ := pureDA_own a17 (by decide)
  have EH1 := call_int (h := h17) (args := [t8, .int .i64 1]) (by simp only [pureDAs, mapO, xH1, pureDA_int]) (run_heldValueSS 57 yH1 k17 (by omega) (by omega) z17)
  obtain ⟨v18, c18, d18, r18, o18, n18'⟩ := run_toColumnS 58 g0 P0.1 P0.2
  obtain ⟨t18, h18, s18, e18, a18, u18, w18, f18, m18⟩ := own_call (h := h17) (args := [(.sl cl0 2 ct0)]) (by simp only [pureDAs, mapO, pureDA_pur g0]) r18 o18 n18'
  have b18 := own_ids a18 w18
  have o57x := OwnF_frame _ a17 (fun j hj => f18 j (OwnF_lt _ a17 j hj))
  obtain ⟨v19, c19, d19, r19, o19, n19'⟩ := run_toColumnS 58 g1 P1.1 P1.2
  obtain ⟨t19, h19, s19, e19, a19, u19, w19, f19, m19⟩ := own_call (h := h18) (args := [(.sl cl1 2 ct1)]) (by simp only [pureDAs, mapO, pureDA_pur g1]) r19 o19 n19'
  have b19 := own_ids a19 w19
  have o58x := OwnF_frame _ o57x (fun j hj => f19 j (OwnF_lt _ o57x j hj))
  have o59x := OwnF_frame _ a18 (fun j hj => f19 j (OwnF_lt _ a18 j hj))
  obtain ⟨v20, c20, d20, r20, o20, n20'⟩ := run_toValueSS 57 g2 P2.1 P2.2
  obtain ⟨t20, h20, s20, e20, a20, u20, w20, f20, m20⟩ := own_call (h := h19) (args := [(.sl cl2 1 ct2)]) (by simp only [pureDAs, mapO, pureDA_pur g2]) r20 o20 n20'
  have b20 := own_ids a20 w20
  have o60x := OwnF_frame _ o58x (fun j hj => f20 j (OwnF_lt _ o58x j hj))
  have o61x := OwnF_frame _ o59x (fun j hj => f20 j (OwnF_lt _ o59x j hj))
  have o62x := OwnF_frame _ a19 (fun j hj => f20 j (OwnF_lt _ a19 j hj))
  obtain ⟨v21, c21, d21, r21, o21, n21'⟩ := run_toValueSS 57 g3 P3.1 P3.2
  obtain ⟨t21, h21, s21, e21, a21, u21, w21, f21, m21⟩ := own_call (h := h20) (args := [(.sl cl3 1 ct3)]) (by simp only [pureDAs, mapO, pureDA_pur g3]) r21 o21 n21'
  have b21 := own_ids a21 w21
  have o63x := OwnF_frame _ o60x (fun j hj => f21 j (OwnF_lt _ o60x j hj))
  have o64x := OwnF_frame _ o61x (fun j hj => f21 j (OwnF_lt _ o61x j hj))
  have o65x := OwnF_frame _ o62x (fun j hj => f21 j (OwnF_lt _ o62x j hj))
  have o66x := OwnF_frame _ a20 (fun j hj => f21 j (OwnF_lt _ a20 j hj))
  obtain ⟨qk18, xk18, yk18⟩ := pureDA_own o64x (by decide)
  obtain ⟨qk19, xk19, yk19⟩ := pureDA_own o65x (by decide)
  obtain ⟨qk20, xk20, yk20⟩ := pureDA_own o66x (by decide)
  obtain ⟨qk21, xk21, yk21⟩ := pureDA_own a21 (by decide)
  obtain ⟨v22, c22, d22, r22, o22, n22'⟩ := cI yk18 yk19 yk20 yk21
  obtain ⟨t22, h22, s22, e22, a22, u22, w22, f22, m22⟩ := own_call (h := h21) (args := [t18, t19, t20, t21, .int .i64 n4, .int .i64 n5]) (by simp only [pureDAs, mapO, xk18, xk19, xk20, xk21, pureDA_int, pureDA_bool, pureDA_str]) r22 o22 n22'
  have b22 := own_ids a22 w22
  have o67x := OwnF_frame _ o63x (fun j hj => f22 j (OwnF_lt _ o63x j hj))
  have o68x := OwnF_frame _ o64x (fun j hj => f22 j (OwnF_lt _ o64x j hj))
  have o69x := OwnF_frame _ o65x (fun j hj => f22 j (OwnF_lt _ o65x j hj))
  have o70x := OwnF_frame _ o66x (fun j hj => f22 j (OwnF_lt _ o66x j hj))
  have o71x := OwnF_frame _ a21 (fun j hj => f22 j (OwnF_lt _ a21 j hj))
  obtain ⟨qG3, xG3, yG3⟩ := pureDA_own a22 (by decide)
  have EG3 := call_bool (h := h22) (args := [t22, w]) (by simp only [pureDAs, mapO, xG3, pureDA_pur gw]) (run_eqValueSS 57 yG3 gw C1)
  obtain ⟨qH2, xH2, yH2⟩ := pureDA_own o67x (by decide)
  have EH2 := call_int (h := h22) (args := [t8, .int .i64 1]) (by simp only [pureDAs, mapO, xH2, pureDA_int]) (run_heldValueSS 57 yH2 k17 (by omega) (by omega) z17)
  simp -implicitDefEqProofs (disch := omega) only [go_sem, Nat.reduceBEq, Nat.reduceAdd, Nat.reduceSub, Nat.reduceMul, Nat.reduceLeDiff, Nat.reduceEqDiff, Nat.reduceLT, Int.reduceNeg, Int.reduceAdd, Int.reduceSub, Int.reduceMul, Int.reduceLE, Int.reduceLT, Int.reduceEq, Int.reduceToNat, reduceCtorEq, z0, q0, z1, q1, z2, q2, z3, q3, K0, K1, e0, e1, e2, e3, eW, e4, e5, e6, e7, e8, EG1, e9, EA0, e10, EA1, e11, EA2, e12, EA3, e13, e14, e15, e16, EG2, e17, EH1, e18, e19, e20, e21, e22, EG3, EH2]
  exact ⟨_, rfl⟩
end Go.Proofs.Ytgepapgabnaonaa.PE
/- The exact statement of FnExactNotInRows. -/
set_option linter.unusedVariables false
set_option linter.unusedSimpArgs false
set_option maxHeartbeats 8000000
namespace Go.Proofs.Ytgepapgabnaonaa.PE
open Go.RowKit

-- find13
theorem law_FnExactNotInRows {p0 : V} {x0 : List (List U)} {p1 : V} {x1 : List (List U)} {p2 : V} {x2 : List (List U)} {p3 : V} {x3 : List (List U)} (n4 : Int) (n5 : Int) (g0 : PurF (.sub fdColumn) p0 (.sub x0)) (B0 : LenF 9223372036854775807 9223372036854775807 (.sub fdColumn) (.sub x0)) (g1 : PurF (.sub fdColumn) p1 (.sub x1)) (B1 : LenF 9223372036854775807 9223372036854775807 (.sub fdColumn) (.sub x1)) (g2 : PurF (.sub fdValueS) p2 (.sub x2)) (B2 : LenF 9223372036854775807 9223372036854775807 (.sub fdValueS) (.sub x2)) (g3 : PurF (.sub fdValueS) p3 (.sub x3)) (B3 : LenF 9223372036854775807 9223372036854775807 (.sub fdValueS) (.sub x3)) (i4 : -9223372036854775808 ≤ n4 ∧ n4 ≤ 9223372036854775807) (i5 : -9223372036854775808 ≤ n5 ∧ n5 ≤ 9223372036854775807) : ∃ d h1, runD tab noExt d 13 [p0, p1, p2, p3, .int .i64 n4, .int .i64 n5] [] = some ([.bool true], h1) := by
  refine ⟨61, ?_⟩
  rw [runD_eq find13 _ _ _ (by simp)]
  obtain ⟨cl0, ct0, rfl, hz0⟩ := purS_Column g0
  have hl0 := Zip2_len hz0
  obtain ⟨cl1, ct1, rfl, hz1⟩ := purS_Column g1
  have hl1 := Zip2_len hz1
  obtain ⟨cl2, ct2, rfl, hz2⟩ := purS_ValueS g2
  have hl2 := Zip2_len hz2
  obtain ⟨cl3, ct3, rfl, hz3⟩ := purS_ValueS g3
  have hl3 := Zip2_len hz3
  have z0 := run_szColumnS 59 (1048576) g0 B0 (by omega) (by omega)
  have y0 := szF_spec (N := 1048576) (.sub fdColumn) (.sub x0) (1048576) (by decide) (by omega)
  generalize szF (.sub fdColumn) (.sub x0) (1048576) = l0 at z0 y0
  by_cases q0 : l0 < 0
  · simp -implicitDefEqProofs (disch := omega) only [go_sem, Nat.reduceBEq, Nat.reduceAdd, Nat.reduceSub, Nat.reduceMul, Nat.reduceLeDiff, Nat.reduceEqDiff, Nat.reduceLT, Int.reduceNeg, Int.reduceAdd, Int.reduceSub, Int.reduceMul, Int.reduceLE, Int.reduceLT, Int.reduceEq, Int.reduceToNat, reduceCtorEq, z0, q0]
    exact ⟨_, rfl⟩
  obtain ⟨y0a, L0, y0c⟩ := y0 (by omega) (by omega)
  have z1 := run_szColumnS 59 (l0) g1 B1 (by omega) (by omega)
  have y1 := szF_spec (N := 1048576) (.sub fdColumn) (.sub x1) (l0) (by decide) (by omega)
  generalize szF (.sub fdColumn) (.sub x1) (l0) = l1 at z1 y1
  by_cases q1 : l1 < 0
  · simp -implicitDefEqProofs (disch := omega) only [go_sem, Nat.reduceBEq, Nat.reduceAdd, Nat.reduceSub, Nat.reduceMul, Nat.reduceLeDiff, Nat.reduceEqDiff, Nat.reduceLT, Int.reduceNeg, Int.reduceAdd, Int.reduceSub, Int.reduceMul, Int.reduceLE, Int.reduceLT, Int.reduceEq, Int.reduceToNat, reduceCtorEq, z0, q0, z1, q1]
    exact ⟨_, rfl⟩
  obtain ⟨y1a, L1, y1c⟩ := y1 (by omega) (by omega)
  have z2 := run_szValueSS 57 (l1) g2 B2 (by omega) (by omega)
  have y2 := szF_spec (N := 1048576) (.sub fdValueS) (.sub x2) (l1) (by decide) (by omega)
  generalize szF (.sub fdValueS) (.sub x2) (l1) = l2 at z2 y2
  by_cases q2 : l2 < 0
  · simp -implicitDefEqProofs (disch := omega) only [go_sem, Nat.reduceBEq, Nat.reduceAdd, Nat.reduceSub, Nat.reduceMul, Nat.reduceLeDiff, Nat.reduceEqDiff, Nat.reduceLT, Int.reduceNeg, Int.reduceAdd, Int.reduceSub, Int.reduceMul, Int.reduceLE, Int.reduceLT, Int.reduceEq, Int.reduceToNat, reduceCtorEq, z0, q0, z1, q1, z2, q2]
    exact ⟨_, rfl⟩
  obtain ⟨y2a, L2, y2c⟩ := y2 (by omega) (by omega)
  have z3 := run_szValueSS 57 (l2) g3 B3 (by omega) (by omega)
  have y3 := szF_spec (N := 1048576) (.sub fdValueS) (.sub x3) (l2) (by decide) (by omega)
  generalize szF (.sub fdValueS) (.sub x3) (l2) = l3 at z3 y3
  by_cases q3 : l3 < 0
  · simp -implicitDefEqProofs (disch := omega) only [go_sem, Nat.reduceBEq, Nat.reduceAdd, Nat.reduceSub, Nat.reduceMul, Nat.reduceLeDiff, Nat.reduceEqDiff, Nat.reduceLT, Int.reduceNeg, Int.reduceAdd, Int.reduceSub, Int.reduceMul, Int.reduceLE, Int.reduceLT, Int.reduceEq, Int.reduceToNat, reduceCtorEq, z0, q0, z1, q1, z2, q2, z3, q3]
    exact ⟨_, rfl⟩
  obtain ⟨y3a, L3, y3c⟩ := y3 (by omega) (by omega)
  have M0 := LenF_mono (n' := big) (m' := big) (by decide) (by decide) _ L0
  have P0 : x0.length ≤ 1048576 ∧ AllU (LenR 1048576 1048576 fdColumn) x0 := by simpa only [LenF] using L0
  have M1 := LenF_mono (n' := big) (m' := big) (by decide) (by decide) _ L1
  have P1 : x1.length ≤ 1048576 ∧ AllU (LenR 1048576 1048576 fdColumn) x1 := by simpa only [LenF] using L1
  have M2 := LenF_mono (n' := big) (m' := big) (by decide) (by decide) _ L2
  have P2 : x2.length ≤ 1048576 ∧ AllU (LenR 1048576 1048576 fdValueS) x2 := by simpa only [LenF] using L2
  have M3 := LenF_mono (n' := big) (m' := big) (by decide) (by decide) _ L3
  have P3 : x3.length ≤ 1048576 ∧ AllU (LenR 1048576 1048576 fdValueS) x3 := by simpa only [LenF] using L3
  obtain ⟨ux, C1, C2, cS, cI⟩ := core_NotInRows ⟨_, g0⟩ L0 ⟨_, g1⟩ L1 ⟨_, g2⟩ L2 ⟨_, g3⟩ L3 n4 n5 i4 i5
  obtain ⟨v0, c0, d0, r0, o0, n0'⟩ := run_toColumnS 58 g0 P0.1 P0.2
  obtain ⟨t0, h0, s0, e0, a0, u0, w0, f0, m0⟩ := own_call (h := ([] : Heap)) (args := [(.sl cl0 2 ct0)]) (by simp only [pureDAs, mapO, pureDA_pur g0]) r0 o0 n0'
  have b0 := own_ids a0 w0
  obtain ⟨v1, c1, d1, r1, o1, n1'⟩ := run_toColumnS 58 g1 P1.1 P1.2
  obtain ⟨t1, h1, s1, e1, a1, u1, w1, f1, m1⟩ := own_call (h := h0) (args := [(.sl cl1 2 ct1)]) (by simp only [pureDAs, mapO, pureDA_pur g1]) r1 o1 n1'
  have b1 := own_ids a1 w1
  have o1x := OwnF_frame _ a0 (fun j hj => f1 j (OwnF_lt _ a0 j hj))
  obtain ⟨v2, c2, d2, r2, o2, n2'⟩ := run_toValueSS 57 g2 P2.1 P2.2
  obtain ⟨t2, h2, s2, e2, a2, u2, w2, f2, m2⟩ := own_call (h := h1) (args := [(.sl cl2 1 ct2)]) (by simp only [pureDAs, mapO, pureDA_pur g2]) r2 o2 n2'
  have b2 := own_ids a2 w2
  have o2x := OwnF_frame _ o1x (fun j hj => f2 j (OwnF_lt _ o1x j hj))
  have o3x := OwnF_frame _ a1 (fun j hj => f2 j (OwnF_lt _ a1 j hj))
  obtain ⟨v3, c3, d3, r3, o3, n3'⟩ := run_toValueSS 57 g3 P3.1 P3.2
  obtain ⟨t3, h3, s3, e3, a3, u3, w3, f3, m3⟩ := own_call (h := h2) (args := [(.sl cl3 1 ct3)]) (by simp only [pureDAs, mapO, pureDA_pur g3]) r3 o3 n3'
  have b3 := own_ids a3 w3
  have o4x := OwnF_frame _ o2x (fun j hj => f3 j (OwnF_lt _ o2x j hj))
  have o5x := OwnF_frame _ o3x (fun j hj => f3 j (OwnF_lt _ o3x j hj))
  have o6x := OwnF_frame _ a2 (fun j hj => f3 j (OwnF_lt _ a2 j hj))
  obtain ⟨qs0, xs0, ys0⟩ := pureDA_own o4x (by decide)
  obtain ⟨qs1, xs1, ys1⟩ := pureDA_own o5x (by decide)
  obtain ⟨qs2, xs2, ys2⟩ := pureDA_own o6x (by decide)
  obtain ⟨qs3, xs3, ys3⟩ := pureDA_own a3 (by decide)
  obtain ⟨w, eS, gw⟩ := cS ys0 ys1 ys2 ys3
  obtain ⟨hd, eW⟩ := call_spec (h := h3) (args := [t0, t1, t2, t3, .int .i64 n4, .int .i64 n5]) (by simp only [pureDAs, mapO, xs0, xs1, xs2, xs3, pureDA_int, pureDA_bool, pureDA_str]) eS
  try simp only [oneOf] at eW
  obtain ⟨v4, c4, d4, r4, o4, n4'⟩ := run_toColumnS 58 g0 P0.1 P0.2
  obtain ⟨t4, h4, s4, e4, a4, u4, w4, f4, m4⟩ := own_call (h := hd) (args := [(.sl cl0 2 ct0)]) (by simp only [pureDAs, mapO, pureDA_pur g0]) r4 o4 n4'
  have b4 := own_ids a4 w4
  obtain ⟨v5, c5, d5, r5, o5, n5'⟩ := run_toColumnS 58 g1 P1.1 P1.2
  obtain ⟨t5, h5, s5, e5, a5, u5, w5, f5, m5⟩ := own_call (h := h4) (args := [(.sl cl1 2 ct1)]) (by simp only [pureDAs, mapO, pureDA_pur g1]) r5 o5 n5'
  have b5 := own_ids a5 w5
  have o7x := OwnF_frame _ a4 (fun j hj => f5 j (OwnF_lt _ a4 j hj))
  obtain ⟨v6, c6, d6, r6, o6, n6'⟩ := run_toValueSS 57 g2 P2.1 P2.2
  obtain ⟨t6, h6, s6, e6, a6, u6, w6, f6, m6⟩ := own_call (h := h5) (args := [(.sl cl2 1 ct2)]) (by simp only [pureDAs, mapO, pureDA_pur g2]) r6 o6 n6'
  have b6 := own_ids a6 w6
  have o8x := OwnF_frame _ o7x (fun j hj => f6 j (OwnF_lt _ o7x j hj))
  have o9x := OwnF_frame _ a5 (fun j hj => f6 j (OwnF_lt _ a5 j hj))
  obtain ⟨v7, c7, d7, r7, o7, n7'⟩ := run_toValueSS 57 g3 P3.1 P3.2
  obtain ⟨t7, h7, s7, e7, a7, u7, w7, f7, m7⟩ := own_call (h := h6) (args := [(.sl cl3 1 ct3)]) (by simp only [pureDAs, mapO, pureDA_pur g3]) r7 o7 n7'
  have b7 := own_ids a7 w7
  have o10x := OwnF_frame _ o8x (fun j hj => f7 j (OwnF_lt _ o8x j hj))
  have o11x := OwnF_frame _ o9x (fun j hj => f7 j (OwnF_lt _ o9x j hj))
  have o12x := OwnF_frame _ a6 (fun j hj => f7 j (OwnF_lt _ a6 j hj))
  obtain ⟨qg4, xg4, yg4⟩ := pureDA_own o10x (by decide)
  obtain ⟨qg5, xg5, yg5⟩ := pureDA_own o11x (by decide)
  obtain ⟨qg6, xg6, yg6⟩ := pureDA_own o12x (by decide)
  obtain ⟨qg7, xg7, yg7⟩ := pureDA_own a7 (by decide)
  obtain ⟨v8, c8, d8, r8, o8, n8'⟩ := cI yg4 yg5 yg6 yg7
  obtain ⟨t8, h8, s8, e8, a8, u8, w8, f8, m8⟩ := own_call (h := h7) (args := [t4, t5, t6, t7, .int .i64 n4, .int .i64 n5]) (by simp only [pureDAs, mapO, xg4, xg5, xg6, xg7, pureDA_int, pureDA_bool, pureDA_str]) r8 o8 n8'
  have b8 := own_ids a8 w8
  have o13x := OwnF_frame _ o10x (fun j hj => f8 j (OwnF_lt _ o10x j hj))
  have o14x := OwnF_frame _ o11x (fun j hj => f8 j (OwnF_lt _ o11x j hj))
  have o15x := OwnF_frame _ o12x (fun j hj => f8 j (OwnF_lt _ o12x j hj))
  have o16x := OwnF_frame _ a7 (fun j hj => f8 j (OwnF_lt _ a7 j hj))
  obtain ⟨qG1, xG1, yG1⟩ := pureDA_own a8 (by decide)
  have EG1 := call_bool (h := h8) (args := [t8, w]) (by simp only [pureDAs, mapO, xG1, pureDA_pur gw]) (run_eqValueSS 57 yG1 gw C1)
  obtain ⟨v9, c9, d9, r9, o9, n9'⟩ := run_toColumnS 58 g0 P0.1 P0.2
  obtain ⟨t9, h9, s9, e9, a9, u9, w9, f9, m9⟩ := own_call (h := h8) (args := [(.sl cl0 2 ct0)]) (by simp only [pureDAs, mapO, pureDA_pur g0]) r9 o9 n9'
  have b9 := own_ids a9 w9
  have o17x := OwnF_frame _ o13x (fun j hj => f9 j (OwnF_lt _ o13x j hj))
  have o18x := OwnF_frame _ o14x (fun j hj => f9 j (OwnF_lt _ o14x j hj))
  have o19x := OwnF_frame _ o15x (fun j hj => f9 j (OwnF_lt _ o15x j hj))
  have o20x := OwnF_frame _ o16x (fun j hj => f9 j (OwnF_lt _ o16x j hj))
  have o21x := OwnF_frame _ a8 (fun j hj => f9 j (OwnF_lt _ a8 j hj))
  obtain ⟨qA0, xA0, yA0⟩ := pureDA_own o17x (by decide)
  obtain ⟨qB0, xB0, yB0⟩ := pureDA_own a9 (by decide)
  have EA0 := call_bool (h := h9) (args := [t4, t9]) (by simp only [pureDAs, mapO, xA0, xB0]) (run_eqColumnS 58 yA0 yB0 M0)
  obtain ⟨v10, c10, d10, r10, o10, n10'⟩ := run_toColumnS 58 g1 P1.1 P1.2
  obtain ⟨t10, h10, s10, e10, a10, u10, w10, f10, m10⟩ := own_call (h := h9) (args := [(.sl cl1 2 ct1)]) (by simp only [pureDAs, mapO, pureDA_pur g1]) r10 o10 n10'
  have b10 := own_ids a10 w10
  have o22x := OwnF_frame _ o17x (fun j hj => f10 j (OwnF_lt _ o17x j hj))
  have o23x := OwnF_frame _ o18x (fun j hj => f10 j (OwnF_lt _ o18x j hj))
  have o24x := OwnF_frame _ o19x (fun j hj => f10 j (OwnF_lt _ o19x j hj))
  have o25x := OwnF_frame _ o20x (fun j hj => f10 j (OwnF_lt _ o20x j hj))
  have o26x := OwnF_frame _ o21x (fun j hj => f10 j (OwnF_lt _ o21x j hj))
  obtain ⟨qA1, xA1, yA1⟩ := pureDA_own o23x (by decide)
  obtain ⟨qB1, xB1, yB1⟩ := pureDA_own a10 (by decide)
  have EA1 := call_bool (h := h10) (args := [t5, t10]) (by simp only [pureDAs, mapO, xA1, xB1]) (run_eqColumnS 58 yA1 yB1 M1)
  obtain ⟨v11, c11, d11, r11, o11, n11'⟩ := run_toValueSS 57 g2 P2.1 P2.2
  obtain ⟨t11, h11, s11, e11, a11, u11, w11, f11, m11⟩ := own_call (h := h10) (args := [(.sl cl2 1 ct2)]) (by simp only [pureDAs, mapO, pureDA_pur g2]) r11 o11 n11'
  have b11 := own_ids a11 w11
  have o27x := OwnF_frame _ o22x (fun j hj => f11 j (OwnF_lt _ o22x j hj))
  have o28x := OwnF_frame _ o23x (fun j hj => f11 j (OwnF_lt _ o23x j hj))
  have o29x := OwnF_frame _ o24x (fun j hj => f11 j (OwnF_lt _ o24x j hj))
  have o30x := OwnF_frame _ o25x (fun j hj => f11 j (OwnF_lt _ o25x j hj))
  have o31x := OwnF_frame _ o26x (fun j hj => f11 j (OwnF_lt _ o26x j hj))
  obtain ⟨qA2, xA2, yA2⟩ := pureDA_own o29x (by decide)
  obtain ⟨qB2, xB2, yB2⟩ := pureDA_own a11 (by decide)
  have EA2 := call_bool (h := h11) (args := [t6, t11]) (by simp only [pureDAs, mapO, xA2, xB2]) (run_eqValueSS 57 yA2 yB2 M2)
  obtain ⟨v12, c12, d12, r12, o12, n12'⟩ := run_toValueSS 57 g3 P3.1 P3.2
  obtain ⟨t12, h12, s12, e12, a12, u12, w12, f12, m12⟩ := own_call (h := h11) (args := [(.sl cl3 1 ct3)]) (by simp only [pureDAs, mapO, pureDA_pur g3]) r12 o12 n12'
  have b12 := own_ids a12 w12
  have o32x := OwnF_frame _ o27x (fun j hj => f12 j (OwnF_lt _ o27x j hj))
  have o33x := OwnF_frame _ o28x (fun j hj => f12 j (OwnF_lt _ o28x j hj))
  have o34x := OwnF_frame _ o29x (fun j hj => f12 j (OwnF_lt _ o29x j hj))
  have o35x := OwnF_frame _ o30x (fun j hj => f12 j (OwnF_lt _ o30x j hj))
  have o36x := OwnF_frame _ o31x (fun j hj => f12 j (OwnF_lt _ o31x j hj))
  obtain ⟨qA3, xA3, yA3⟩ := pureDA_own o35x (by decide)
  obtain ⟨qB3, xB3, yB3⟩ := pureDA_own a12 (by decide)
  have EA3 := call_bool (h := h12) (args := [t7, t12]) (by simp only [pureDAs, mapO, xA3, xB3]) (run_eqValueSS 57 yA3 yB3 M3)
  obtain ⟨h13, z0x, e13, a13, k13, z13, f13, m13⟩ := run_markColumnS 59 o32x u4 M0 (k := (1 : Int)) (by omega) (by omega)
  have o37x := OwnF_frame _ o33x (fun j hj => f13 j (fun hm => by have z1 := b5 j hj; have z2 := b4 j hm; omega))
  have o38x := OwnF_frame _ o34x (fun j hj => f13 j (fun hm => by have z1 := b6 j hj; have z2 := b4 j hm; omega))
  have o39x := OwnF_frame _ o35x (fun j hj => f13 j (fun hm => by have z1 := b7 j hj; have z2 := b4 j hm; omega))
  have o40x := OwnF_frame _ o36x (fun j hj => f13 j (fun hm => by have z1 := b8 j hj; have z2 := b4 j hm; omega))
  obtain ⟨h14, z1x, e14, a14, k14, z14, f14, m14⟩ := run_markColumnS 59 o37x u5 M1 (k := ((1 : Int) + cntF (.sub fdColumn) (.sub x0))) (by omega) (by omega)
  have o41x := OwnF_frame _ a13 (fun j hj => f14 j (fun hm => by have z1 := b4 j hj; have z2 := b5 j hm; omega))
  have o42x := OwnF_frame _ o38x (fun j hj => f14 j (fun hm => by have z1 := b6 j hj; have z2 := b5 j hm; omega))
  have o43x := OwnF_frame _ o39x (fun j hj => f14 j (fun hm => by have z1 := b7 j hj; have z2 := b5 j hm; omega))
  have o44x := OwnF_frame _ o40x (fun j hj => f14 j (fun hm => by have z1 := b8 j hj; have z2 := b5 j hm; omega))
  obtain ⟨h15, z2x, e15, a15, k15, z15, f15, m15⟩ := run_markValueSS 57 o42x u6 M2 (k := (((1 : Int) + cntF (.sub fdColumn) (.sub x0)) + cntF (.sub fdColumn) (.sub x1))) (by omega) (by omega)
  have o45x := OwnF_frame _ o41x (fun j hj => f15 j (fun hm => by have z1 := b4 j hj; have z2 := b6 j hm; omega))
  have o46x := OwnF_frame _ a14 (fun j hj => f15 j (fun hm => by have z1 := b5 j hj; have z2 := b6 j hm; omega))
  have o47x := OwnF_frame _ o43x (fun j hj => f15 j (fun hm => by have z1 := b7 j hj; have z2 := b6 j hm; omega))
  have o48x := OwnF_frame _ o44x (fun j hj => f15 j (fun hm => by have z1 := b8 j hj; have z2 := b6 j hm; omega))
  obtain ⟨h16, z3x, e16, a16, k16, z16, f16, m16⟩ := run_markValueSS 57 o47x u7 M3 (k := ((((1 : Int) + cntF (.sub fdColumn) (.sub x0)) + cntF (.sub fdColumn) (.sub x1)) + cntF (.sub fdValueS) (.sub x2))) (by omega) (by omega)
  have o49x := OwnF_frame _ o45x (fun j hj => f16 j (fun hm => by have z1 := b4 j hj; have z2 := b7 j hm; omega))
  have o50x := OwnF_frame _ o46x (fun j hj => f16 j (fun hm => by have z1 := b5 j hj; have z2 := b7 j hm; omega))
  have o51x := OwnF_frame _ a15 (fun j hj => f16 j (fun hm => by have z1 := b6 j hj; have z2 := b7 j hm; omega))
  have o52x := OwnF_frame _ o48x (fun j hj => f16 j (fun hm => by have z1 := b8 j hj; have z2 := b7 j hm; omega))
  have K0 : ((((((1 : Int) + cntF (.sub fdColumn) (.sub x0)) + cntF (.sub fdColumn) (.sub x1)) + cntF (.sub fdValueS) (.sub x2)) + cntF (.sub fdValueS) (.sub x3)) < 0) = False := eq_false (by omega)
  obtain ⟨qG2, xG2, yG2⟩ := pureDA_own o52x (by decide)
  have EG2 := call_bool (h := h16) (args := [t8, w]) (by simp only [pureDAs, mapO, xG2, pureDA_pur gw]) (run_eqValueSS 57 yG2 gw C1)
  obtain ⟨h17, zG, e17, a17, k17, z17, f17, m17⟩ := run_markValueSS 57 o52x u8 C1 (k := 1) (by omega) (by omega)
  have o53x := OwnF_frame _ o49x (fun j hj => f17 j (fun hm => by have z1 := b4 j hj; have z2 := b8 j hm; omega))
  have o54x := OwnF_frame _ o50x (fun j hj => f17 j (fun hm => by have z1 := b5 j hj; have z2 := b8 j hm; omega))
  have o55x := OwnF_frame _ o51x (fun j hj => f17 j (fun hm => by have z1 := b6 j hj; have z2 := b8 j hm; omega))
  have o56x := OwnF_frame _ a16 (fun j hj => f17 j (fun hm => by have z1 := b7 j hj; have z2 := b8 j hm; omega))
  have K1 : ((1 : Int) + cntF (.sub fdValueS) (.sub ux) < 0) = False := eq_false (by omega)
  obtain ⟨qH1, xH1, yH1⟩ := pureDA_own a17 (by decide)
  have EH1 := call_int (h := h17) (args := [t8, .int .i64 1]) (by simp only [pureDAs, mapO, xH1, pureDA_int]) (run_heldValueSS 57 yH1 k17 (by omega) (by omega) z17)
  obtain ⟨v18, c18, d18, r18, o18, n18'⟩ := run_toColumnS 58 g0 P0.1 P0.2
  obtain ⟨t18, h18, s18, e18, a18, u18, w18, f18, m18⟩ := own_call (h := h17) (args := [(.sl cl0 2 ct0)]) (by simp only [pureDAs, mapO, pureDA_pur g0]) r18 o18 n18'
  have b18 := own_ids a18 w18
  have o57x := OwnF_frame _ a17 (fun j hj => f18 j (OwnF_lt _ a17 j hj))
  obtain ⟨v19, c19, d19, r19, o19, n19'⟩ := run_toColumnS 58 g1 P1.1 P1.2
  obtain ⟨t19, h19, s19, e19, a19, u19, w19, f19, m19⟩ := own_call (h := h18) (args := [(.sl cl1 2 ct1)]) (by simp only [pureDAs, mapO, pureDA_pur g1]) r19 o19 n19'
  have b19 := own_ids a19 w19
  have o58x := OwnF_frame _ o57x (fun j hj => f19 j (OwnF_lt _ o57x j hj))
  have o59x := OwnF_frame _ a18 (fun j hj => f19 j (OwnF_lt _ a18 j hj))
  obtain ⟨v20, c20, d20, r20, o20, n20'⟩ := run_toValueSS 57 g2 P2.1 P2.2
  obtain ⟨t20, h20, s20, e20, a20, u20, w20, f20, m20⟩ := own_call (h := h19) (args := [(.sl cl2 1 ct2)]) (by simp only [pureDAs, mapO, pureDA_pur g2]) r20 o20 n20'
  have b20 := own_ids a20 w20
  have o60x := OwnF_frame _ o58x (fun j hj => f20 j (OwnF_lt _ o58x j hj))
  have o61x := OwnF_frame _ o59x (fun j hj => f20 j (OwnF_lt _ o59x j hj))
  have o62x := OwnF_frame _ a19 (fun j hj => f20 j (OwnF_lt _ a19 j hj))
  obtain ⟨v21, c21, d21, r21, o21, n21'⟩ := run_toValueSS 57 g3 P3.1 P3.2
  obtain ⟨t21, h21, s21, e21, a21, u21, w21, f21, m21⟩ := own_call (h := h20) (args := [(.sl cl3 1 ct3)]) (by simp only [pureDAs, mapO, pureDA_pur g3]) r21 o21 n21'
  have b21 := own_ids a21 w21
  have o63x := OwnF_frame _ o60x (fun j hj => f21 j (OwnF_lt _ o60x j hj))
  have o64x := OwnF_frame _ o61x (fun j hj => f21 j (OwnF_lt _ o61x j hj))
  have o65x := OwnF_frame _ o62x (fun j hj => f21 j (OwnF_lt _ o62x j hj))
  have o66x := OwnF_frame _ a20 (fun j hj => f21 j (OwnF_lt _ a20 j hj))
  obtain ⟨qk18, xk18, yk18⟩ := pureDA_own o64x (by decide)
  obtain ⟨qk19, xk19, yk19⟩ := pureDA_own o65x (by decide)
  obtain ⟨qk20, xk20, yk20⟩ := pureDA_own o66x (by decide)
  obtain ⟨qk21, xk21, yk21⟩ := pureDA_own a21 (by decide)
  obtain ⟨v22, c22, d22, r22, o22, n22'⟩ := cI yk18 yk19 yk20 yk21
  obtain ⟨t22, h22, s22, e22, a22, u22, w22, f22, m22⟩ := own_call (h := h21) (args := [t18, t19, t20, t21, .int .i64 n4, .int .i64 n5]) (by simp only [pureDAs, mapO, xk18, xk19, xk20, xk21, pureDA_int, pureDA_bool, pureDA_str]) r22 o22 n22'
  have b22 := own_ids a22 w22
  have o67x := OwnF_frame _ o63x (fun j hj => f22 j (OwnF_lt _ o63x j hj))
  have o68x := OwnF_frame _ o64x (fun j hj => f22 j (OwnF_lt _ o64x j hj))
  have o69x := OwnF_frame _ o65x (fun j hj => f22 j (OwnF_lt _ o65x j hj))
  have o70x := OwnF_frame _ o66x (fun j hj => f22 j (OwnF_lt _ o66x j hj))
  have o71x := OwnF_frame _ a21 (fun j hj => f22 j (OwnF_lt _ a21 j hj))
  obtain ⟨qG3, xG3, yG3⟩ := pureDA_own a22 (by decide)
  have EG3 := call_bool (h := h22) (args := [t22, w]) (by simp only [pureDAs, mapO, xG3, pureDA_pur gw]) (run_eqValueSS 57 yG3 gw C1)
  obtain ⟨qH2, xH2, yH2⟩ := pureDA_own o67x (by decide)
  have EH2 := call_int (h := h22) (args := [t8, .int .i64 1]) (by simp only [pureDAs, mapO, xH2, pureDA_int]) (run_heldValueSS 57 yH2 k17 (by omega) (by omega) z17)
  simp -implicitDefEqProofs (disch := omega) only [go_sem, Nat.reduceBEq, Nat.reduceAdd, Nat.reduceSub, Nat.reduceMul, Nat.reduceLeDiff, Nat.reduceEqDiff, Nat.reduceLT, Int.reduceNeg, Int.reduceAdd, Int.reduceSub, Int.reduceMul, Int.reduceLE, Int.reduceLT, Int.reduceEq, Int.reduceToNat, reduceCtorEq, z0, q0, z1, q1, z2, q2, z3, q3, K0, K1, e0, e1, e2, e3, eW, e4, e5, e6, e7, e8, EG1, e9, EA0, e10, EA1, e11, EA2, e12, EA3, e13, e14, e15, e16, EG2, e17, EH1, e18, e19, e20, e21, e22, EG3, EH2]
  exact ⟨_, rfl⟩
end Go.Proofs.Ytgepapgabnaonaa.PE
/- Arguments of any plain kind, as they are read: values of the evaluator. -/
set_option linter.unusedVariables false
set_option linter.unusedSimpArgs false
namespace Go.Proofs.Ytgepapgabnaonaa.PE
open Go.RowKit

mutual
def tyF (P : Program) : Nat → TypeId → Fd → Bool
  | 0, _, _ => false
  | n + 1, t, .int k => match P.underlying t with
    | some (.int k') => decide (k' = k)
    | _ => false
  | n + 1, t, .bool => match P.underlying t with
    | some .bool => true
    | _ => false
  | n + 1, t, .str => match P.underlying t with
    | some .string => true
    | _ => false
  | n + 1, t, .sub fs => match P.underlying t with
    | some (.slice e) => decide (P.cellsOf e = fs.length) && decide (0 < fs.length) && tyR P n e fs
    | _ => false
def tyR (P : Program) : Nat → TypeId → List Fd → Bool
  | 0, _, _ => false
  | n + 1, t, fs => match P.underlying t with
    | some (.struct flds) => decide (P.cellsOf t = fs.length) && tyS P n flds.toList 0 fs
    | _ => match fs with
      | [f] => tyF P n t f
      | _ => false
def tyS (P : Program) : Nat → List Field → Nat → List Fd → Bool
  | 0, _, _, _ => false
  | n + 1, [], _, fs => fs.isEmpty
  | n + 1, fl :: r, off, fs => decide (fl.offset = off) && tyR P n fl.type (fs.take (P.cellsOf fl.type)) && decide (P.cellsOf fl.type ≤ fs.length) && tyS P n r (off + P.cellsOf fl.type) (fs.drop (P.cellsOf fl.type))
end

def B63 : Nat := 9223372036854775807
section
variable {H : Type} {enc : TypeId × Value → H} {P : Program} {w : World} {base : Nat} {spare : Nat → Bool} {held : Bool}

/-- Cells and what they are. -/
def Got (w : World) (fs : List Fd) (cs : List Value) : Prop := ∃ (ps : List V) (us : List U), PurR fs ps us ∧ LenR B63 B63 fs us ∧ ps.length = cs.length ∧ ∀ (i : Nat) (y : V), ps[i]? = some y → ∃ u, cs[i]? = some u ∧ Rep w (fun b => b < w.heap.size) u y
theorem Got.one {f : Fd} {v : Value} {p : V} {u : U} (h1 : PurF f p u) (h2 : LenF B63 B63 f u) (h3 : Rep w (fun b => b < w.heap.size) v p) : Got w [f] [v] := by
  refine ⟨[p], [u], by simp only [PurR]; exact ⟨p, [], u, [], rfl, rfl, h1, rfl, rfl⟩, by simp only [LenR]; exact ⟨h2, trivial⟩, rfl, fun i y hy => ?_⟩
  cases i with
  | zero => simp at hy; subst hy; exact ⟨v, rfl, h3⟩
  | succ i => simp at hy
theorem PurR_len : ∀ {fs : List Fd} {ps : List V} {us : List U}, PurR fs ps us → ps.length = fs.length ∧ us.length = fs.length
  | [], _, _, h => by simp only [PurR] at h; rw [h.1, h.2]; exact ⟨rfl, rfl⟩
  | f :: fs, _, _, h => by
    simp only [PurR] at h
    obtain ⟨v, c', u, x', rfl, rfl, _, h2⟩ := h
    have := PurR_len h2
    simp [this.1, this.2]
theorem PurR_app : ∀ {f1 f2 : List Fd} {p1 p2 : List V} {u1 u2 : List U}, PurR f1 p1 u1 → PurR f2 p2 u2 → PurR (f1 ++ f2) (p1 ++ p2) (u1 ++ u2)
  | [], _, _, _, _, _, h, h2 => by simp only [PurR] at h; rw [h.1, h.2]; exact h2
  | f :: f1, f2, _, p2, _, u2, h, h2 => by
    simp only [PurR] at h
    obtain ⟨v, c', u, x', rfl, rfl, h3, h4⟩ := h
    show PurR (f :: (f1 ++ f2)) _ _
    simp only [PurR]
    exact ⟨v, c' ++ p2, u, x' ++ u2, rfl, rfl, h3, PurR_app h4 h2⟩
theorem LenR_app {n m : Nat} : ∀ {f1 f2 : List Fd} {u1 u2 : List U}, u1.length = f1.length → LenR n m f1 u1 → LenR n m f2 u2 → LenR n m (f1 ++ f2) (u1 ++ u2)
  | [], _, u1, _, hl, _, h2 => by
    have : u1 = [] := List.eq_nil_of_length_eq_zero hl
    subst this
    exact h2
  | f :: f1, f2, u :: u1, u2, hl, h, h2 => by
    show LenR n m (f :: (f1 ++ f2)) (u :: (u1 ++ u2))
    simp only [LenR] at h ⊢
    exact ⟨h.1, LenR_app (by simpa using hl) h.2 h2⟩
  | _ :: _, _, [], _, hl, _, _ => by simp at hl
theorem Got.app {f1 f2 : List Fd} {c1 c2 : List Value} (h1 : Got w f1 c1) (h2 : Got w f2 c2) : Got w (f1 ++ f2) (c1 ++ c2) := by
  obtain ⟨p1, u1, a1, a2, a3, a4⟩ := h1
  obtain ⟨p2, u2, b1, b2, b3, b4⟩ := h2
  refine ⟨p1 ++ p2, u1 ++ u2, PurR_app a1 b1, LenR_app (PurR_len a1).2 a2 b2, by simp [a3, b3], fun i y hy => ?_⟩
  rcases Nat.lt_or_ge i p1.length with hi | hi
  · rw [List.getElem?_append_left hi] at hy
    obtain ⟨u, hu, hr⟩ := a4 i y hy
    exact ⟨u, by rw [List.getElem?_append_left (by omega)]; exact hu, hr⟩
  · rw [List.getElem?_append_right hi] at hy
    obtain ⟨u, hu, hr⟩ := b4 _ y hy
    exact ⟨u, by rw [List.getElem?_append_right (by omega), ← a3]; exact hu, hr⟩

theorem plain_addr {a : Addr} {v : Value} (h : w.cell? a = some v) : ∃ g o, a = ⟨g, o, none⟩ ∧ g < w.heap.size := by
  obtain ⟨g, o, sp⟩ := a
  unfold World.cell? at h
  have hg : g < w.heap.size := by
    rcases Nat.lt_or_ge g w.heap.size with h1 | h1
    · exact h1
    · rw [Array.getElem?_eq_none h1] at h; cases sp <;> simp at h
  cases sp with
  | none => exact ⟨g, o, rfl, hg⟩
  | some s => simp at h; split at h <;> cases h

/-- A slice out of its elements. -/
theorem got_slice {fs : List Fd} {a : Addr} {len cap : Nat} (hpos : 0 < fs.length) (hl : len ≤ cap) (hm : cap ≤ maxLen) (hx : ∀ i, i < len → ∃ cs', w.cells? base (a.add (i * fs.length)) fs.length = some cs' ∧ Got w fs cs') :
    Got w [.sub fs] [.slice (some a) len cap] := by
  have hx' : ∀ i, i < len → ∃ q : List V × List U × List Value, w.cells? base (a.add (i * fs.length)) fs.length = some q.2.2 ∧ PurR fs q.1 q.2.1 ∧ LenR B63 B63 fs q.2.1 ∧ q.1.length = q.2.2.length ∧ ∀ (j : Nat) (y : V), q.1[j]? = some y → ∃ u, q.2.2[j]? = some u ∧ Rep w (fun b => b < w.heap.size) u y := by
    intro i hi
    obtain ⟨cs', h1, ps, us, h2, h3, h4, h5⟩ := hx i hi
    exact ⟨(ps, us, cs'), h1, h2, h3, h4, h5⟩
  obtain ⟨q, hq⟩ := Go.Deep.choose_lt hx'
  have hzip : ∀ (n : Nat), n ≤ len → Zip2 (PurR fs) ((List.range n).map fun i => (q i).1) ((List.range n).map fun i => (q i).2.1) ∧ AllU (LenR B63 B63 fs) ((List.range n).map fun i => (q i).2.1) := by
    have z2 : ∀ {l1 : List (List V)} {l2 : List (List U)} {c : List V} {x : List U}, Zip2 (PurR fs) l1 l2 → PurR fs c x → Zip2 (PurR fs) (l1 ++ [c]) (l2 ++ [x]) := by
      intro l1
      induction l1 with
      | nil => intro l2 c x h hc; cases l2 with
        | nil => exact ⟨hc, trivial⟩
        | cons b bs => exact h.elim
      | cons a l1 ih => intro l2 c x h hc; cases l2 with
        | nil => exact h.elim
        | cons b bs => exact ⟨h.1, ih h.2 hc⟩
    have a2 : ∀ {l2 : List (List U)} {x : List U}, AllU (LenR B63 B63 fs) l2 → LenR B63 B63 fs x → AllU (LenR B63 B63 fs) (l2 ++ [x]) := by
      intro l2
      induction l2 with
      | nil => intro x _ hx; exact ⟨hx, trivial⟩
      | cons b bs ih => intro x h hx; exact ⟨h.1, ih h.2 hx⟩
    intro n
    induction n with
    | zero => intro _; exact ⟨trivial, trivial⟩
    | succ n ih =>
      intro hn
      obtain ⟨i1, i2⟩ := ih (by omega)
      obtain ⟨_, b1, b2, _⟩ := hq n (by omega)
      rw [List.range_succ, List.map_append, List.map_append]
      exact ⟨z2 i1 b1, a2 i2 b2⟩
  obtain ⟨z1, z2⟩ := hzip len (Nat.le_refl _)
  have hml : maxLen = 9223372036854775807 := by decide
  refine Got.one (p := .sl false fs.length ((List.range len).map fun i => (q i).1)) (u := .sub ((List.range len).map fun i => (q i).2.1)) ?_ ?_ ?_
  · simp only [PurF]
    exact ⟨false, _, _, rfl, rfl, z1⟩
  · simp only [LenF, List.length_map, List.length_range]
    exact ⟨by unfold B63; omega, z2⟩
  · have hlen : ∀ j x, ((List.range len).map fun i => (q i).1)[j]? = some x → j < len ∧ x = (q j).1 := by
      intro j x hx
      rw [List.getElem?_map] at hx
      obtain ⟨k, hk, rfl⟩ := Option.map_eq_some_iff.1 hx
      have hj : j < len := by
        have := (List.getElem?_eq_some_iff.1 hk).1
        simpa using this
      rw [List.getElem?_range hj] at hk
      injection hk with hk
      subst hk
      exact ⟨hj, rfl⟩
    have hcell : ∀ (j c : Nat) (y : V), j < len → (q j).1[c]? = some y → ∃ u, (q j).2.2[c]? = some u ∧ w.cell? ((a.add (j * fs.length)).add c) = some u ∧ Rep w (fun b => b < w.heap.size) u y := by
      intro j c y hj hy
      obtain ⟨h1, h2, h3, h4, h5⟩ := hq j hj
      obtain ⟨_, h6, h7⟩ := World.cells?_some h1
      obtain ⟨u, hu, hr⟩ := h5 c y hy
      have hc : c < fs.length := by
        have := (List.getElem?_eq_some_iff.1 hu).1
        omega
      exact ⟨u, hu, (h7 c hc).trans hu, hr⟩
    refine Rep.sl (some a) len cap false _ fs.length (fun j c => ((q j).2.2[c]?).getD undef) (by simp) hl (fun e => by cases e) hpos (fun x hx => ?_) (fun hn => ?_) (fun j c x y hx hy => ?_)
    · obtain ⟨j, hj⟩ := List.getElem?_of_mem hx
      obtain ⟨h1, rfl⟩ := hlen j x hj
      exact (PurR_len (hq j h1).2.1).1
    · have h0 := (PurR_len (hq 0 hn).2.1).1
      have hy0 : (q 0).1[0]? = some (q 0).1[0] := List.getElem?_eq_getElem (by omega)
      obtain ⟨u0, _, c0, _⟩ := hcell 0 0 _ hn hy0
      rw [Nat.zero_mul] at c0
      have ha : (a.add 0).add 0 = a := by simp [Addr.add]
      rw [ha] at c0
      obtain ⟨g, o, rfl, hg⟩ := plain_addr c0
      refine ⟨g, o, rfl, hg, fun j c x y hx hy => ?_⟩
      obtain ⟨h1, rfl⟩ := hlen j x hx
      obtain ⟨u, hu, hc, _⟩ := hcell j c y h1 hy
      rw [add0, add0] at hc
      rw [hc, hu]
      rfl
    · obtain ⟨h1, rfl⟩ := hlen j x hx
      obtain ⟨u, hu, _, hr⟩ := hcell j c y h1 hy
      show Rep w _ (((q j).2.2[c]?).getD undef) y
      rw [hu]
      exact hr

mutual
theorem gotF : ∀ (n : Nat) {t : TypeId} {f : Fd} {fuel : Nat} {cs : List Value} {x : DataW H × List MemPlace}, tyF P n t f = true → DataW.trod enc P w base spare held fuel t cs = some x → Got w [f] cs
  | 0, _, _, _, _, _, ht, _ => by simp [tyF] at ht
  | n + 1, t, .int k, fuel, cs, x, ht, h => by
    simp only [tyF] at ht
    split at ht
    · rename_i k' hu
      simp only [decide_eq_true_eq] at ht
      subst ht
      obtain ⟨m, rfl, _, _⟩ := DataW.trod_int hu h
      exact Got.one (p := .int k' m) (u := .int m) (by simp only [PurF]; exact ⟨m, rfl, rfl⟩) (by simp [LenF]) (.int _ _)
    · cases ht
  | n + 1, t, .bool, fuel, cs, x, ht, h => by
    simp only [tyF] at ht
    split at ht
    · rename_i hu
      obtain ⟨m, rfl, _⟩ := DataW.trod_bool hu h
      exact Got.one (p := .bool m) (u := .bool m) (by simp only [PurF]; exact ⟨m, rfl, rfl⟩) (by simp [LenF]) (.bool _)
    · cases ht
  | n + 1, t, .str, fuel, cs, x, ht, h => by
    simp only [tyF] at ht
    split at ht
    · rename_i hu
      obtain ⟨m, rfl, _, hm⟩ := DataW.trod_string hu h
      have hml : maxLen = 9223372036854775807 := by decide
      exact Got.one (p := .str m) (u := .str m) (by simp only [PurF]; exact ⟨m, rfl, rfl⟩) (by simp only [LenF]; unfold B63; omega) (.str _)
    · cases ht
  | n + 1, t, .sub fs, fuel, cs, x, ht, h => by
    simp only [tyF] at ht
    split at ht
    · rename_i e hu
      simp only [Bool.and_eq_true, decide_eq_true_eq] at ht
      obtain ⟨⟨hc, hpos⟩, hr⟩ := ht
      rcases Go.Deep.open_slice hu h with ⟨rfl, _⟩ | ⟨a, len, cap, m, k, D, Pl, rfl, hb, hl, hm, hmm, _, hx⟩
      · exact Got.one (p := .sl true fs.length []) (u := .sub []) (by rw [PurF]; exact ⟨true, [], [], rfl, rfl, trivial⟩) (by simp only [LenF]; exact ⟨Nat.zero_le _, trivial⟩) (rep_empty hpos (fun _ => rfl))
      · refine got_slice (base := base) hpos hl hm (fun i hi => ?_)
        obtain ⟨cs', h1, h2⟩ := hx i (by rw [hmm]; split <;> omega)
        rw [hc] at h1
        exact ⟨cs', h1, gotR n hr h2⟩
    · cases ht
theorem gotR : ∀ (n : Nat) {t : TypeId} {fs : List Fd} {fuel : Nat} {cs : List Value} {x : DataW H × List MemPlace}, tyR P n t fs = true → DataW.trod enc P w base spare held fuel t cs = some x → Got w fs cs
  | 0, _, _, _, _, _, ht, _ => by simp [tyR] at ht
  | n + 1, t, fs, fuel, cs, x, ht, h => by
    simp only [tyR] at ht
    split at ht
    · rename_i flds hu
      simp only [Bool.and_eq_true, decide_eq_true_eq] at ht
      obtain ⟨xs, k, _, _, hcl, hxl, hf⟩ := DataW.trod_struct hu h
      refine gotS n (cs := cs) (off := 0) (fuel := k) ht.2 (by omega) (fun i fl hi => ?_)
      have hlt : i < xs.length := by
        have := (List.getElem?_eq_some_iff.1 hi).1
        simp at this
        omega
      rw [Array.getElem?_toList] at hi
      exact ⟨xs[i], by rw [hf i fl hi, List.getElem?_eq_getElem hlt]⟩
    · split at ht
      · rename_i f
        exact gotF n ht h
      · cases ht
theorem gotS : ∀ (n : Nat) {flds : List Field} {off : Nat} {fs : List Fd} {fuel : Nat} {cs : List Value}, tyS P n flds off fs = true → cs.length = off + fs.length → (∀ (i : Nat) (fl : Field), flds[i]? = some fl → ∃ x, DataW.trod enc P w base spare held fuel fl.type ((cs.drop fl.offset).take (P.cellsOf fl.type)) = some x) → Got w fs (cs.drop off)
  | 0, _, _, _, _, _, ht, _, _ => by simp [tyS] at ht
  | n + 1, [], off, fs, fuel, cs, ht, hl, _ => by
    simp only [tyS, List.isEmpty_iff] at ht
    subst ht
    rw [List.drop_of_length_le (by simp at hl; omega)]
    exact ⟨[], [], by simp [PurR], by simp [LenR], rfl, fun i y hy => by simp at hy⟩
  | n + 1, fl :: r, off, fs, fuel, cs, ht, hl, hx => by
    simp only [tyS, Bool.and_eq_true, decide_eq_true_eq] at ht
    obtain ⟨⟨⟨ho, h1⟩, hle⟩, h2⟩ := ht
    obtain ⟨x, hx0⟩ := hx 0 fl rfl
    rw [ho] at hx0
    have g1 := gotR n h1 hx0
    have g2 := gotS n (cs := cs) (off := off + P.cellsOf fl.type) h2 (by rw [List.length_drop]; omega) (fun i f hi => hx (i + 1) f (by simpa using hi))
    have g := g1.app g2
    rw [List.take_append_drop] at g
    rw [← List.drop_drop, List.take_append_drop] at g
    exact g
end
/-- An argument of a slice's type. -/
theorem got_arg {t : TypeId} {fs : List Fd} {v : Value} {d : DataW H} {ps : List MemPlace} (n : Nat) (ht : tyF P n t (.sub fs) = true) (h : DataW.Trod enc P w base spare held t v d ps) (hv : v.cells = #[v]) :
    ∃ p xs, Rep w (fun b => b < w.heap.size) v p ∧ PurF (.sub fs) p (.sub xs) ∧ LenF B63 B63 (.sub fs) (.sub xs) := by
  obtain ⟨fuel, h⟩ := h
  obtain ⟨ps, us, h1, h2, h3, h4⟩ := gotF n ht h
  simp only [PurR] at h1
  obtain ⟨p, _, u, _, rfl, rfl, g, rfl, rfl⟩ := h1
  simp only [LenR] at h2
  obtain ⟨u', hu, hr⟩ := h4 0 p rfl
  rw [hv] at hu
  simp at hu
  subst hu
  have g' := g
  simp only [PurF] at g'
  obtain ⟨_, _, xs, _, rfl, _⟩ := g'
  exact ⟨p, xs, hr, g, h2.1⟩
end
end Go.Proofs.Ytgepapgabnaonaa.PE
