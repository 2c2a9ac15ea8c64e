/- Texts of this claim, one behind the other: Pu5, Pu6, Pn1, Pnr, Pq0, Png, Pnc, Pvz, Pvr, Pu7, Pt1, Pt2, Psz, Pt3, Pu8, Pt4, Pr5. -/
import Derived.Test.YtnnjpiepoeknnaaG0
import Derived.Deep.Slices
import Derived.ChangeArms
/- What sizes, copies, comparisons and marks do, type by type. -/
set_option linter.unusedVariables false
set_option linter.unusedSimpArgs false
set_option maxHeartbeats 4000000
namespace Go.Proofs.Ytnnjpiepoeknnaa.PE
open Go.RowKit

/-! ### Column -/
def fdColumn : List Fd := [.int .i64, .bool]
theorem purR_Column {c : List V} {x : List U} (h : PurR fdColumn c x) : ∃ (a0 : Int) (a1 : Bool), c = [.int .i64 a0, .bool a1] ∧ x = [.int a0, .bool a1] := by
  simp only [fdColumn, PurR] at h
  obtain ⟨v0, _, u0, _, rfl, rfl, g0, v1, _, u1, _, rfl, rfl, g1, rfl, rfl⟩ := h
  simp only [PurF] at g0
  obtain ⟨a0, rfl, rfl⟩ := g0
  simp only [PurF] at g1
  obtain ⟨a1, rfl, rfl⟩ := g1
  exact ⟨a0, a1, rfl, rfl⟩
theorem purR_mk_Column (a0 : Int) (a1 : Bool) : PurR fdColumn [.int .i64 a0, .bool a1] [.int a0, .bool a1] := by
  simp only [fdColumn, PurR]
  exact ⟨_, _, _, _, rfl, rfl, (by simp only [PurF]; first | exact ⟨a0, rfl, rfl⟩ | exact ⟨a0, rfl⟩ | trivial), _, _, _, _, rfl, rfl, (by simp only [PurF]; first | exact ⟨a1, rfl, rfl⟩ | exact ⟨a1, rfl⟩ | trivial), rfl, rfl⟩
theorem purS_Column {p : V} {xs : List (List U)} (hp : PurF (.sub fdColumn) p (.sub xs)) : ∃ cl cont, p = .sl cl 2 cont ∧ Zip2 (PurR fdColumn) cont xs := by
  simp only [PurF] at hp
  obtain ⟨cl, cont, xs', rfl, e, hz⟩ := hp
  injection e with e
  subst e
  exact ⟨cl, cont, rfl, hz⟩
theorem ownR_Column {h : Heap} {c : List V} {x : List U} {i : List Nat} (ho : OwnR h fdColumn c x i) : ∃ (a0 : Int) (a1 : Bool) , c = [.int .i64 a0, .bool a1] ∧ x = [.int a0, .bool a1] ∧ i = [] := by
  simp only [fdColumn, OwnR] at ho
  obtain ⟨v0, _, u0, _, i0, _, rfl, rfl, rfl, g0, v1, _, u1, _, i1, _, rfl, rfl, rfl, g1, rfl, rfl, rfl⟩ := ho
  simp only [OwnF] at g0
  obtain ⟨a0, rfl, rfl, rfl⟩ := g0
  simp only [OwnF] at g1
  obtain ⟨a1, rfl, rfl, rfl⟩ := g1
  exact ⟨a0, a1, rfl, rfl, by simp⟩
theorem ownR_mk_Column (h : Heap) (a0 : Int) (a1 : Bool) : OwnR h fdColumn [.int .i64 a0, .bool a1] [.int a0, .bool a1] [] := by
  simp only [fdColumn, OwnR]
  exact ⟨_, _, _, _, [], [], rfl, rfl, (by simp), (by simp only [OwnF]; first | exact ⟨a0, rfl, rfl, rfl⟩ | exact ⟨a0, rfl, rfl, trivial⟩ | exact ⟨a0, rfl, rfl⟩ | exact ⟨a0, rfl⟩ | trivial), _, _, _, _, [], [], rfl, rfl, (by simp), (by simp only [OwnF]; first | exact ⟨a1, rfl, rfl, rfl⟩ | exact ⟨a1, rfl, rfl, trivial⟩ | exact ⟨a1, rfl, rfl⟩ | exact ⟨a1, rfl⟩ | trivial), rfl, rfl, rfl⟩
theorem heldR_Column {x : List U} {k k' : Int} (h : HeldR fdColumn x k k') (h0 : 0 ≤ k) (h1 : k' ≤ 4611686018427387904) : x = [.int k, .bool (decide (Int.tmod (k + 1) 3 = 0))] ∧ k' = k + 2 := by
  simp only [fdColumn, HeldR] at h
  obtain ⟨u0, _, m0, rfl, g0, u1, _, m1, rfl, g1, rfl, ek⟩ := h
  simp only [HeldF] at g0
  obtain ⟨rfl, rfl⟩ := g0
  simp only [HeldF] at g1
  obtain ⟨rfl, rfl⟩ := g1
  exact ⟨by simp (disch := omega) only [IntWalk.i64_in, Int.add_assoc, Int.reduceAdd], by simp only [ek, Int.add_assoc, Int.reduceAdd]⟩
theorem heldR_mk_Column (k : Int)  (h0 : 0 ≤ k) (h1 : k + 2 ≤ 4611686018427387904) : HeldR fdColumn [.int k, .bool (decide (Int.tmod (k + 1) 3 = 0))] k (k + 2) := by
  simp only [fdColumn, HeldR]
  exact ⟨_, _, (k + 1), rfl, (by simp only [HeldF]; first | trivial | exact ⟨rfl, by omega⟩ | exact ⟨by simp (disch := omega) only [IntWalk.i64_in], by omega⟩ | (simp (disch := omega) only [IntWalk.i64_in, true_and, Int.add_assoc, Int.reduceAdd]; done) | (simp (disch := omega) only [IntWalk.i64_in, true_and, Int.add_assoc, Int.reduceAdd]; omega)), _, _, (k + 2), rfl, (by simp only [HeldF]; first | trivial | exact ⟨rfl, by omega⟩ | exact ⟨by simp (disch := omega) only [IntWalk.i64_in], by omega⟩ | (simp (disch := omega) only [IntWalk.i64_in, true_and, Int.add_assoc, Int.reduceAdd]; done) | (simp (disch := omega) only [IntWalk.i64_in, true_and, Int.add_assoc, Int.reduceAdd]; omega)), rfl, by first | rfl | simp only [Int.add_assoc, Int.reduceAdd]⟩
-- find32
theorem run_szColumnS (d : Nat) {p : V} {xs : List (List U)} (l : Int) (hp : PurF (.sub fdColumn) p (.sub xs)) (hb : LenF 9223372036854775807 9223372036854775807 (.sub fdColumn) (.sub xs)) (h0 : 0 ≤ l) (h1 : l ≤ 1048576) : retP (runD tab noExt (d + 1)) 32 [p, .int .i64 l] = some [.int .i64 (szF (.sub fdColumn) (.sub xs) l)] := by
  obtain ⟨cl, cont, rfl, hz⟩ := purS_Column hp
  simp only [LenF] at hb
  obtain ⟨hb1, hb2⟩ := hb
  have hl := Zip2_len hz
  rw [retP, runD_eq find32 _ _ _ (by simp)]
  rw [szF, ← hl]
  by_cases e : l - (cont.length : Int) < 0
  · simp -implicitDefEqProofs (disch := omega) only [go_sem, Nat.reduceBEq, Nat.reduceAdd, Nat.reduceSub, Nat.reduceMul, Nat.reduceLeDiff, Nat.reduceEqDiff, Nat.reduceLT, Int.reduceNeg, Int.reduceAdd, Int.reduceSub, Int.reduceMul, Int.reduceLE, Int.reduceLT, Int.reduceEq, Int.reduceToNat, reduceCtorEq, IntWalk.i64_in, e, if_true]
  · rw [if_neg e, szZ_nonneg (by omega) (fun x => szR_nonneg _ x _ (by omega) (by simp [fdColumn]))]
    simp -implicitDefEqProofs (disch := omega) only [go_sem, Nat.reduceBEq, Nat.reduceAdd, Nat.reduceSub, Nat.reduceMul, Nat.reduceLeDiff, Nat.reduceEqDiff, Nat.reduceLT, Int.reduceNeg, Int.reduceAdd, Int.reduceSub, Int.reduceMul, Int.reduceLE, Int.reduceLT, Int.reduceEq, Int.reduceToNat, reduceCtorEq, IntWalk.i64_in, e]
-- find99
theorem run_toColumn (d : Nat) (h : Heap) (a0 : Int) (a1 : Bool) : callX (runD tab noExt (d + 1)) h 0 99 [.agg [.int .i64 a0, .bool a1]] = some (.agg [.int .i64 a0, .bool a1], h) := by
  simp only [callX, callO, pureDAs, mapO, pureDA, pureD, deepest, Option.map_some]
  rw [runD_eq find99 _ _ _ (by simp)]
  simp -implicitDefEqProofs (disch := omega) only [go_sem, Nat.reduceBEq, Nat.reduceAdd, Nat.reduceSub, Nat.reduceMul, Nat.reduceLeDiff, Nat.reduceEqDiff, Nat.reduceLT, Int.reduceNeg, Int.reduceAdd, Int.reduceSub, Int.reduceMul, Int.reduceLE, Int.reduceLT, Int.reduceEq, Int.reduceToNat, reduceCtorEq, BackO]
-- find34
theorem run_toColumnS (d : Nat) : ToOK (d + 2) 34 fdColumn := by
  intro p xs hp hx hb
  obtain ⟨cl, cont, rfl, hz⟩ := purS_Column hp
  have hl := Zip2_len hz
  rw [runD_eq find34 _ _ _ (by simp)]
  obtain ⟨h', r, e1, e2, e3⟩ := to_loop (run := runD tab noExt (d + 1)) (draw := drawI (runD tab noExt (d + 1))) (c := L34x0) (zero := [.int .i64 0, .bool false]) (cl := cl) (sz := 2) hz (fun h K => by
        rw [LoopK_eq]
        simp -implicitDefEqProofs only [go_sem, Nat.reduceBEq, Nat.reduceAdd, Nat.reduceSub, Nat.reduceMul, Nat.reduceLeDiff, Nat.reduceEqDiff, Nat.reduceLT, Int.reduceNeg, Int.reduceAdd, Int.reduceSub, Int.reduceMul, Int.reduceLE, Int.reduceLT, Int.reduceEq, Int.reduceToNat, reduceCtorEq, evL34x0, B34x0, Int.lt_irrefl]) (fun i cc x h C K hc hx hi hr hh hC hCl => by
        obtain ⟨a0, a1, rfl, rfl⟩ := purR_Column hr
        have hi' : i < C.length := by omega
        have hi2 : i < cont.length := by omega
        have hh' : h[0]? = some (.rows 0 2 C) := hh
        have h0 : 0 < h.length := (List.getElem?_eq_some_iff.1 hh).1
        have he := run_toColumn d h a0 a1
        refine ⟨h.set 0 (.rows 0 2 (C.set i [.int .i64 a0, .bool a1])), _, [], ?_, by rw [List.getElem?_set_self h0]; rfl, ownR_mk_Column _ a0 a1, List.nodup_nil, (fun j hj => by cases hj), (fun j hj _ => by rw [List.getElem?_set_ne (Ne.symm hj)]), by simp⟩
        rw [LoopK_eq]
        simp -implicitDefEqProofs (disch := omega) only [go_sem, Nat.reduceBEq, Nat.reduceAdd, Nat.reduceSub, Nat.reduceMul, Nat.reduceLeDiff, Nat.reduceEqDiff, Nat.reduceLT, Int.reduceNeg, Int.reduceAdd, Int.reduceSub, Int.reduceMul, Int.reduceLE, Int.reduceLT, Int.reduceEq, Int.reduceToNat, reduceCtorEq, evL34x0, B34x0, hi, hi2, hc, he, hh', hC, IntWalk.i64_in, IntWalk.u8_in]) (h := [.rows 0 2 (List.replicate cont.length [.int .i64 0, .bool false])]) rfl 1099511627775 (by omega)
  have k1 : ((cont.length : Int) < 4294967296) = True := eq_true (by omega)
  simp -implicitDefEqProofs (disch := omega) only [go_sem, Nat.reduceBEq, Nat.reduceAdd, Nat.reduceSub, Nat.reduceMul, Nat.reduceLeDiff, Nat.reduceEqDiff, Nat.reduceLT, Int.reduceNeg, Int.reduceAdd, Int.reduceSub, Int.reduceMul, Int.reduceLE, Int.reduceLT, Int.reduceEq, Int.reduceToNat, reduceCtorEq, small, k1]
  rw [e1]
  simp -implicitDefEqProofs only [go_sem, Nat.reduceBEq, Nat.reduceAdd, Nat.reduceSub, Nat.reduceMul, Nat.reduceLeDiff, Nat.reduceEqDiff, Nat.reduceLT, Int.reduceNeg, Int.reduceAdd, Int.reduceSub, Int.reduceMul, Int.reduceLE, Int.reduceLT, Int.reduceEq, Int.reduceToNat, reduceCtorEq]
  exact ⟨_, _, _, rfl, e2, e3⟩
-- find102
theorem run_eqColumn (d : Nat) (a0 : Int) (a1 : Bool)  : retP (runD tab noExt (d + 1)) 102 [.agg [.int .i64 a0, .bool a1], .agg [.int .i64 a0, .bool a1]] = some [.bool true] := by
  rw [retP, runD_eq find102 _ _ _ (by simp)]
  simp -implicitDefEqProofs (disch := omega) only [go_sem, Nat.reduceBEq, Nat.reduceAdd, Nat.reduceSub, Nat.reduceMul, Nat.reduceLeDiff, Nat.reduceEqDiff, Nat.reduceLT, Int.reduceNeg, Int.reduceAdd, Int.reduceSub, Int.reduceMul, Int.reduceLE, Int.reduceLT, Int.reduceEq, Int.reduceToNat, reduceCtorEq]
-- find37
theorem run_eqColumnS (d : Nat) : EqOK (d + 2) 37 fdColumn := by
  intro p q xs hp hq hb
  obtain ⟨cl, cont, rfl, hz⟩ := purS_Column hp
  obtain ⟨cl', cont', rfl, hz'⟩ := purS_Column hq
  simp only [LenF, big] at hb
  have hl := Zip2_len hz
  have hl' := Zip2_len hz'
  rw [retP, runD_eq find37 _ _ _ (by simp)]
  have hlp := eq_loop (run := runD tab noExt (d + 1)) (draw := drawI (runD tab noExt (d + 1))) (c := L37x0) (n0 := 0) (cl := cl) (cl' := cl') (sz := 2) hz hz' (fun K => by
        rw [LoopS_eq, ← hl]
        simp -implicitDefEqProofs only [go_sem, Nat.reduceBEq, Nat.reduceAdd, Nat.reduceSub, Nat.reduceMul, Nat.reduceLeDiff, Nat.reduceEqDiff, Nat.reduceLT, Int.reduceNeg, Int.reduceAdd, Int.reduceSub, Int.reduceMul, Int.reduceLE, Int.reduceLT, Int.reduceEq, Int.reduceToNat, reduceCtorEq, evL37x0, B37x0, Int.lt_irrefl]) (fun i cc cc' x K hc hc' hx hi hr hr' => by
        obtain ⟨a0, a1, rfl, rfl⟩ := purR_Column hr
        obtain ⟨b0, b1, rfl, e⟩ := purR_Column hr'
        simp only [List.cons.injEq, U.int.injEq, U.bool.injEq, U.str.injEq, U.sub.injEq, and_true] at e
        obtain ⟨rfl, rfl⟩ := e
        have he := run_eqColumn d a0 a1 
        rw [LoopS_eq]
        simp -implicitDefEqProofs (disch := omega) only [go_sem, Nat.reduceBEq, Nat.reduceAdd, Nat.reduceSub, Nat.reduceMul, Nat.reduceLeDiff, Nat.reduceEqDiff, Nat.reduceLT, Int.reduceNeg, Int.reduceAdd, Int.reduceSub, Int.reduceMul, Int.reduceLE, Int.reduceLT, Int.reduceEq, Int.reduceToNat, reduceCtorEq, evL37x0, B37x0, evC_draw, evD37x0, E37x0, hi, hc, hc', he, IntWalk.i64_in]) 1099511627775 (by omega)
  simp -implicitDefEqProofs (disch := omega) only [go_sem, Nat.reduceBEq, Nat.reduceAdd, Nat.reduceSub, Nat.reduceMul, Nat.reduceLeDiff, Nat.reduceEqDiff, Nat.reduceLT, Int.reduceNeg, Int.reduceAdd, Int.reduceSub, Int.reduceMul, Int.reduceLE, Int.reduceLT, Int.reduceEq, Int.reduceToNat, reduceCtorEq, hl, hl']
  rw [hlp]
  simp -implicitDefEqProofs only [go_sem, Nat.reduceBEq, Nat.reduceAdd, Nat.reduceSub, Nat.reduceMul, Nat.reduceLeDiff, Nat.reduceEqDiff, Nat.reduceLT, Int.reduceNeg, Int.reduceAdd, Int.reduceSub, Int.reduceMul, Int.reduceLE, Int.reduceLT, Int.reduceEq, Int.reduceToNat, reduceCtorEq]
-- find135
theorem run_heldColumnS (d : Nat) : HeldOK (d + 1) 135 fdColumn := by
  intro p xs k k' hp hh h0 h1 hb
  obtain ⟨cl, cont, rfl, hz⟩ := purS_Column hp
  simp only [LenF, big] at hb
  simp only [HeldF] at hh
  obtain ⟨xs', e, hh⟩ := hh
  injection e with e
  subst e
  have hl := Zip2_len hz
  rw [retP, runD_eq find135 _ _ _ (by simp)]
  have hlp := held_loop (run := runD tab noExt d) (draw := drawI (runD tab noExt d)) (c := L135x0) (n0 := 0) (R := fun c x => PurR fdColumn c x ∧ LenR big big fdColumn x) (cl := cl) (sz := 2) (xs := xs) (cont := cont) (Zip2_len2 hz hb.2) (fun x k k' h => HeldR_le fdColumn h) (fun k K => by
        rw [LoopS_eq]
        simp -implicitDefEqProofs only [go_sem, Nat.reduceBEq, Nat.reduceAdd, Nat.reduceSub, Nat.reduceMul, Nat.reduceLeDiff, Nat.reduceEqDiff, Nat.reduceLT, Int.reduceNeg, Int.reduceAdd, Int.reduceSub, Int.reduceMul, Int.reduceLE, Int.reduceLT, Int.reduceEq, Int.reduceToNat, reduceCtorEq, evL135x0, B135x0, Int.lt_irrefl]) (fun i cc x k m K hc hx hi hr hhr h0 h1 => by
        obtain ⟨a0, a1, rfl, rfl⟩ := purR_Column hr.1
        have hle := HeldR_le _ hhr
        obtain ⟨e, em⟩ := heldR_Column hhr h0 h1
        subst em
        simp only [List.cons.injEq, U.int.injEq, U.bool.injEq, U.str.injEq, U.sub.injEq, and_true] at e
        obtain ⟨rfl, rfl⟩ := e
        rw [LoopS_eq]
        simp -implicitDefEqProofs (disch := omega) only [go_sem, Nat.reduceBEq, Nat.reduceAdd, Nat.reduceSub, Nat.reduceMul, Nat.reduceLeDiff, Nat.reduceEqDiff, Nat.reduceLT, Int.reduceNeg, Int.reduceAdd, Int.reduceSub, Int.reduceMul, Int.reduceLE, Int.reduceLT, Int.reduceEq, Int.reduceToNat, reduceCtorEq, evL135x0, B135x0, hi, hc, IntWalk.i64_in, IntWalk.u8_in, Int.add_assoc]) hh h0 h1 1099511627775 (by omega)
  simp -implicitDefEqProofs (disch := omega) only [go_sem, Nat.reduceBEq, Nat.reduceAdd, Nat.reduceSub, Nat.reduceMul, Nat.reduceLeDiff, Nat.reduceEqDiff, Nat.reduceLT, Int.reduceNeg, Int.reduceAdd, Int.reduceSub, Int.reduceMul, Int.reduceLE, Int.reduceLT, Int.reduceEq, Int.reduceToNat, reduceCtorEq]
  rw [hlp]
  simp -implicitDefEqProofs only [go_sem, Nat.reduceBEq, Nat.reduceAdd, Nat.reduceSub, Nat.reduceMul, Nat.reduceLeDiff, Nat.reduceEqDiff, Nat.reduceLT, Int.reduceNeg, Int.reduceAdd, Int.reduceSub, Int.reduceMul, Int.reduceLE, Int.reduceLT, Int.reduceEq, Int.reduceToNat, reduceCtorEq]
-- find67
theorem run_markColumnS (d : Nat) : MarkOK (d + 1) 67 fdColumn := by
  intro h v xs ids k ho hn hb h0 hk
  simp only [cntF] at hk ⊢
  simp only [LenF] at hb
  have ho' := ho
  simp only [OwnF] at ho
  obtain ⟨xs', e, ⟨cl, rfl, rfl, rfl⟩ | ⟨id, st, clip, cont, r, rfl, e2, rfl, ho⟩⟩ := ho <;> injection e with e <;> subst e
  · refine ⟨h, [], ?_, ho', by simp only [HeldF]; exact ⟨[], rfl, by simp [HeldZ, sumU]⟩, by simp [LenF, AllU], fun _ _ => rfl, rfl⟩
    simp only [callX, callK]
    rw [runD_eq find67 _ _ _ (by simp)]
    simp -implicitDefEqProofs (disch := omega) only [go_sem, Nat.reduceBEq, Nat.reduceAdd, Nat.reduceSub, Nat.reduceMul, Nat.reduceLeDiff, Nat.reduceEqDiff, Nat.reduceLT, Int.reduceNeg, Int.reduceAdd, Int.reduceSub, Int.reduceMul, Int.reduceLE, Int.reduceLT, Int.reduceEq, Int.reduceToNat, reduceCtorEq]
    rw [LoopK_eq]
    simp -implicitDefEqProofs only [go_sem, Nat.reduceBEq, Nat.reduceAdd, Nat.reduceSub, Nat.reduceMul, Nat.reduceLeDiff, Nat.reduceEqDiff, Nat.reduceLT, Int.reduceNeg, Int.reduceAdd, Int.reduceSub, Int.reduceMul, Int.reduceLE, Int.reduceLT, Int.reduceEq, Int.reduceToNat, reduceCtorEq, evL67x0, B67x0, Int.lt_irrefl, resOk, sumU, Int.add_zero]
  · have hl := Zip3_len ho
    have hlb : cont.length ≤ 1099511627775 := by have := hb.1; unfold big at this; omega
    obtain ⟨h', ys, f1, f2, f3, f4, f5, f6, f7⟩ := mark_loop (run := runD tab noExt d) (draw := drawI (runD tab noExt d)) (c := L67x0) (fs := fdColumn) (id := id) (st := st) (n := cont.length) (clip := clip) (xs := xs) (h := h) (cont := cont) (r := r) (k := k) (fun h k K => by
        rw [LoopK_eq]
        simp -implicitDefEqProofs only [go_sem, Nat.reduceBEq, Nat.reduceAdd, Nat.reduceSub, Nat.reduceMul, Nat.reduceLeDiff, Nat.reduceEqDiff, Nat.reduceLT, Int.reduceNeg, Int.reduceAdd, Int.reduceSub, Int.reduceMul, Int.reduceLE, Int.reduceLT, Int.reduceEq, Int.reduceToNat, reduceCtorEq, evL67x0, B67x0, Int.lt_irrefl]) (fun i h C cc x a k K hi hh hCl hC hr hx hid hnd h0 hk => by
        obtain ⟨a0, a1, rfl, rfl, rfl⟩ := ownR_Column hr
        have hcnt : cntR fdColumn [.int a0, .bool a1] = 1 + 1 := by simp only [fdColumn, cntR, cntF_int, cntF_bool, cntF_str] <;> omega
        rw [hcnt] at hk ⊢
        have hh' : h[id]? = some (.rows st 2 C) := hh
        have hidl : id < h.length := (List.getElem?_eq_some_iff.1 hh').1
        have hi' : i < C.length := by omega
        have hi2 : i < cont.length := by omega
        refine ⟨h.set id (.rows st 2 (C.set i [.int .i64 k, .bool (decide (Int.tmod (k + 1) 3 = 0))])), [.int .i64 k, .bool (decide (Int.tmod (k + 1) 3 = 0))], [.int k, .bool (decide (Int.tmod (k + 1) 3 = 0))], ?_, by rw [List.getElem?_set_self hidl]; rfl, ownR_mk_Column _ (k) ((decide (Int.tmod (k + 1) 3 = 0))), ?_, ⟨trivial, trivial, trivial⟩, (fun j hj hj2 => by rw [List.getElem?_set_ne (Ne.symm hj)]), by simp⟩
        · rw [LoopK_eq]
          simp -implicitDefEqProofs (disch := omega) only [go_sem, Nat.reduceBEq, Nat.reduceAdd, Nat.reduceSub, Nat.reduceMul, Nat.reduceLeDiff, Nat.reduceEqDiff, Nat.reduceLT, Int.reduceNeg, Int.reduceAdd, Int.reduceSub, Int.reduceMul, Int.reduceLE, Int.reduceLT, Int.reduceEq, Int.reduceToNat, reduceCtorEq, evL67x0, B67x0, hi, hi2, hh', hC, IntWalk.i64_in, IntWalk.u8_in, refs, refC, frzs, List.contains_nil, List.getElem?_set_self, List.length_set, List.set_set, Int.add_assoc, Int.natCast_add, Int.natCast_one, Int.cast_ofNat_Int, pures, okN, hidl, hi']
        · have hq := heldR_mk_Column k h0 (by omega)
          first | exact hq | (refine cast ?_ hq; simp only [Int.add_assoc, Int.natCast_add, Int.natCast_one, Int.cast_ofNat_Int, Int.reduceAdd]) | (simpa only [Int.add_assoc, Int.natCast_add, Int.natCast_one, Int.cast_ofNat_Int, Int.reduceAdd] using hq)
        ) rfl e2 ho hn hb.2 h0 hk 1099511627775 (by omega)
    refine ⟨h', ys, ?_, f2, by simp only [HeldF]; exact ⟨ys, rfl, f3⟩, by simp only [LenF]; exact ⟨by omega, f5⟩, f6, f7⟩
    simp only [callX, callK]
    rw [runD_eq find67 _ _ _ (by simp)]
    simp -implicitDefEqProofs (disch := omega) only [go_sem, Nat.reduceBEq, Nat.reduceAdd, Nat.reduceSub, Nat.reduceMul, Nat.reduceLeDiff, Nat.reduceEqDiff, Nat.reduceLT, Int.reduceNeg, Int.reduceAdd, Int.reduceSub, Int.reduceMul, Int.reduceLE, Int.reduceLT, Int.reduceEq, Int.reduceToNat, reduceCtorEq]
    rw [f1]
    simp -implicitDefEqProofs only [go_sem, Nat.reduceBEq, Nat.reduceAdd, Nat.reduceSub, Nat.reduceMul, Nat.reduceLeDiff, Nat.reduceEqDiff, Nat.reduceLT, Int.reduceNeg, Int.reduceAdd, Int.reduceSub, Int.reduceMul, Int.reduceLE, Int.reduceLT, Int.reduceEq, Int.reduceToNat, reduceCtorEq, resOk]
/-! ### Value -/
def fdValue : List Fd := [.int .i64, .int .i64, .str]
theorem purR_Value {c : List V} {x : List U} (h : PurR fdValue c x) : ∃ (a0 : Int) (a1 : Int) (a2 : ByteArray), c = [.int .i64 a0, .int .i64 a1, .str a2] ∧ x = [.int a0, .int a1, .str a2] := by
  simp only [fdValue, PurR] at h
  obtain ⟨v0, _, u0, _, rfl, rfl, g0, v1, _, u1, _, rfl, rfl, g1, v2, _, u2, _, rfl, rfl, g2, rfl, rfl⟩ := h
  simp only [PurF] at g0
  obtain ⟨a0, rfl, rfl⟩ := g0
  simp only [PurF] at g1
  obtain ⟨a1, rfl, rfl⟩ := g1
  simp only [PurF] at g2
  obtain ⟨a2, rfl, rfl⟩ := g2
  exact ⟨a0, a1, a2, rfl, rfl⟩
theorem purR_mk_Value (a0 : Int) (a1 : Int) (a2 : ByteArray) : PurR fdValue [.int .i64 a0, .int .i64 a1, .str a2] [.int a0, .int a1, .str a2] := by
  simp only [fdValue, PurR]
  exact ⟨_, _, _, _, rfl, rfl, (by simp only [PurF]; first | exact ⟨a0, rfl, rfl⟩ | exact ⟨a0, rfl⟩ | trivial), _, _, _, _, rfl, rfl, (by simp only [PurF]; first | exact ⟨a1, rfl, rfl⟩ | exact ⟨a1, rfl⟩ | trivial), _, _, _, _, rfl, rfl, (by simp only [PurF]; first | exact ⟨a2, rfl, rfl⟩ | exact ⟨a2, rfl⟩ | trivial), rfl, rfl⟩
theorem purS_Value {p : V} {xs : List (List U)} (hp : PurF (.sub fdValue) p (.sub xs)) : ∃ cl cont, p = .sl cl 3 cont ∧ Zip2 (PurR fdValue) cont xs := by
  simp only [PurF] at hp
  obtain ⟨cl, cont, xs', rfl, e, hz⟩ := hp
  injection e with e
  subst e
  exact ⟨cl, cont, rfl, hz⟩
theorem ownR_Value {h : Heap} {c : List V} {x : List U} {i : List Nat} (ho : OwnR h fdValue c x i) : ∃ (a0 : Int) (a1 : Int) (a2 : ByteArray) , c = [.int .i64 a0, .int .i64 a1, .str a2] ∧ x = [.int a0, .int a1, .str a2] ∧ i = [] := by
  simp only [fdValue, OwnR] at ho
  obtain ⟨v0, _, u0, _, i0, _, rfl, rfl, rfl, g0, v1, _, u1, _, i1, _, rfl, rfl, rfl, g1, v2, _, u2, _, i2, _, rfl, rfl, rfl, g2, rfl, rfl, rfl⟩ := ho
  simp only [OwnF] at g0
  obtain ⟨a0, rfl, rfl, rfl⟩ := g0
  simp only [OwnF] at g1
  obtain ⟨a1, rfl, rfl, rfl⟩ := g1
  simp only [OwnF] at g2
  obtain ⟨a2, rfl, rfl, rfl⟩ := g2
  exact ⟨a0, a1, a2, rfl, rfl, by simp⟩
theorem ownR_mk_Value (h : Heap) (a0 : Int) (a1 : Int) (a2 : ByteArray) : OwnR h fdValue [.int .i64 a0, .int .i64 a1, .str a2] [.int a0, .int a1, .str a2] [] := by
  simp only [fdValue, OwnR]
  exact ⟨_, _, _, _, [], [], rfl, rfl, (by simp), (by simp only [OwnF]; first | exact ⟨a0, rfl, rfl, rfl⟩ | exact ⟨a0, rfl, rfl, trivial⟩ | exact ⟨a0, rfl, rfl⟩ | exact ⟨a0, rfl⟩ | trivial), _, _, _, _, [], [], rfl, rfl, (by simp), (by simp only [OwnF]; first | exact ⟨a1, rfl, rfl, rfl⟩ | exact ⟨a1, rfl, rfl, trivial⟩ | exact ⟨a1, rfl, rfl⟩ | exact ⟨a1, rfl⟩ | trivial), _, _, _, _, [], [], rfl, rfl, (by simp), (by simp only [OwnF]; first | exact ⟨a2, rfl, rfl, rfl⟩ | exact ⟨a2, rfl, rfl, trivial⟩ | exact ⟨a2, rfl, rfl⟩ | exact ⟨a2, rfl⟩ | trivial), rfl, rfl, rfl⟩
theorem heldR_Value {x : List U} {k k' : Int} (h : HeldR fdValue x k k') (h0 : 0 ≤ k) (h1 : k' ≤ 4611686018427387904) : x = [.int k, .int (k + 1), .str (txt (k + 2))] ∧ k' = k + 3 := by
  simp only [fdValue, HeldR] at h
  obtain ⟨u0, _, m0, rfl, g0, u1, _, m1, rfl, g1, u2, _, m2, rfl, g2, rfl, ek⟩ := h
  simp only [HeldF] at g0
  obtain ⟨rfl, rfl⟩ := g0
  simp only [HeldF] at g1
  obtain ⟨rfl, rfl⟩ := g1
  simp only [HeldF] at g2
  obtain ⟨rfl, rfl⟩ := g2
  exact ⟨by simp (disch := omega) only [IntWalk.i64_in, Int.add_assoc, Int.reduceAdd], by simp only [ek, Int.add_assoc, Int.reduceAdd]⟩
theorem heldR_mk_Value (k : Int)  (h0 : 0 ≤ k) (h1 : k + 3 ≤ 4611686018427387904) : HeldR fdValue [.int k, .int (k + 1), .str (txt (k + 2))] k (k + 3) := by
  simp only [fdValue, HeldR]
  exact ⟨_, _, (k + 1), rfl, (by simp only [HeldF]; first | trivial | exact ⟨rfl, by omega⟩ | exact ⟨by simp (disch := omega) only [IntWalk.i64_in], by omega⟩ | (simp (disch := omega) only [IntWalk.i64_in, true_and, Int.add_assoc, Int.reduceAdd]; done) | (simp (disch := omega) only [IntWalk.i64_in, true_and, Int.add_assoc, Int.reduceAdd]; omega)), _, _, (k + 2), rfl, (by simp only [HeldF]; first | trivial | exact ⟨rfl, by omega⟩ | exact ⟨by simp (disch := omega) only [IntWalk.i64_in], by omega⟩ | (simp (disch := omega) only [IntWalk.i64_in, true_and, Int.add_assoc, Int.reduceAdd]; done) | (simp (disch := omega) only [IntWalk.i64_in, true_and, Int.add_assoc, Int.reduceAdd]; omega)), _, _, (k + 3), rfl, (by simp only [HeldF]; first | trivial | exact ⟨rfl, by omega⟩ | exact ⟨by simp (disch := omega) only [IntWalk.i64_in], by omega⟩ | (simp (disch := omega) only [IntWalk.i64_in, true_and, Int.add_assoc, Int.reduceAdd]; done) | (simp (disch := omega) only [IntWalk.i64_in, true_and, Int.add_assoc, Int.reduceAdd]; omega)), rfl, by first | rfl | simp only [Int.add_assoc, Int.reduceAdd]⟩
-- find163
theorem run_szValue (d : Nat) (a0 : Int) (a1 : Int) (a2 : ByteArray) (l : Int) (hb : LenR 9223372036854775807 9223372036854775807 fdValue [.int a0, .int a1, .str a2]) (h0 : 0 ≤ l) (h1 : l ≤ 1048576) : retP (runD tab noExt (d + 1)) 163 [.agg [.int .i64 a0, .int .i64 a1, .str a2], .int .i64 l] = some [.int .i64 (szR fdValue [.int a0, .int a1, .str a2] l)] := by
  rw [retP, runD_eq find163 _ _ _ (by simp)]
  have e0 : (l < 0) = False := eq_false (by omega)
  simp only [fdValue, LenR] at hb
  have hb2 := hb.2.2.1
  simp only [LenF] at hb2
  have hm0 : l - (a2.size : Int) ≤ 1048576 := by omega
  by_cases e1 : (l - (a2.size : Int)) < 0
  · simp -implicitDefEqProofs (disch := omega) only [go_sem, Nat.reduceBEq, Nat.reduceAdd, Nat.reduceSub, Nat.reduceMul, Nat.reduceLeDiff, Nat.reduceEqDiff, Nat.reduceLT, Int.reduceNeg, Int.reduceAdd, Int.reduceSub, Int.reduceMul, Int.reduceLE, Int.reduceLT, Int.reduceEq, Int.reduceToNat, reduceCtorEq, IntWalk.i64_in, szR, szF_int, szF_bool, szF_str, fdValue, e0, e1, if_true, if_false]
  · simp -implicitDefEqProofs (disch := omega) only [go_sem, Nat.reduceBEq, Nat.reduceAdd, Nat.reduceSub, Nat.reduceMul, Nat.reduceLeDiff, Nat.reduceEqDiff, Nat.reduceLT, Int.reduceNeg, Int.reduceAdd, Int.reduceSub, Int.reduceMul, Int.reduceLE, Int.reduceLT, Int.reduceEq, Int.reduceToNat, reduceCtorEq, IntWalk.i64_in, szR, szF_int, szF_bool, szF_str, fdValue, e0, e1, if_true, if_false]
-- find98
theorem run_szValueS (d : Nat) {p : V} {xs : List (List U)} (l : Int) (hp : PurF (.sub fdValue) p (.sub xs)) (hb : LenF 9223372036854775807 9223372036854775807 (.sub fdValue) (.sub xs)) (h0 : 0 ≤ l) (h1 : l ≤ 1048576) : retP (runD tab noExt (d + 2)) 98 [p, .int .i64 l] = some [.int .i64 (szF (.sub fdValue) (.sub xs) l)] := by
  obtain ⟨cl, cont, rfl, hz⟩ := purS_Value hp
  simp only [LenF] at hb
  obtain ⟨hb1, hb2⟩ := hb
  have hl := Zip2_len hz
  rw [retP, runD_eq find98 _ _ _ (by simp)]
  rw [szF, ← hl]
  by_cases e : l - (cont.length : Int) < 0
  · simp -implicitDefEqProofs (disch := omega) only [go_sem, Nat.reduceBEq, Nat.reduceAdd, Nat.reduceSub, Nat.reduceMul, Nat.reduceLeDiff, Nat.reduceEqDiff, Nat.reduceLT, Int.reduceNeg, Int.reduceAdd, Int.reduceSub, Int.reduceMul, Int.reduceLE, Int.reduceLT, Int.reduceEq, Int.reduceToNat, reduceCtorEq, IntWalk.i64_in, e, if_true]
  · have hlp := sz_loop (run := runD tab noExt (d + 1)) (draw := drawI (runD tab noExt (d + 1))) (c := L98x0) (n0 := 0) (SR := szR fdValue) (cl := cl) (sz := 3) hz (fun l K => by
        rw [LoopS_eq]
        simp -implicitDefEqProofs only [go_sem, Nat.reduceBEq, Nat.reduceAdd, Nat.reduceSub, Nat.reduceMul, Nat.reduceLeDiff, Nat.reduceEqDiff, Nat.reduceLT, Int.reduceNeg, Int.reduceAdd, Int.reduceSub, Int.reduceMul, Int.reduceLE, Int.reduceLT, Int.reduceEq, Int.reduceToNat, reduceCtorEq, evL98x0, B98x0, Int.lt_irrefl]) (fun i cc x l K hc hx hi hr h0 h1 => by
        obtain ⟨a0, a1, a2, rfl, rfl⟩ := purR_Value hr
        have hs := AllU_at hb2 hx
        have hm : szR fdValue [.int a0, .int a1, .str a2] l ≤ l := szR_le (by decide) h0 h1
        have he := run_szValue d a0 a1 a2  l hs h0 h1
        generalize szR fdValue [.int a0, .int a1, .str a2] l = r at he hm ⊢
        rw [LoopS_eq]
        by_cases e : r < 0
        · refine .inl ⟨e, .int .i64 r, ?_⟩
          simp -implicitDefEqProofs (disch := omega) only [go_sem, Nat.reduceBEq, Nat.reduceAdd, Nat.reduceSub, Nat.reduceMul, Nat.reduceLeDiff, Nat.reduceEqDiff, Nat.reduceLT, Int.reduceNeg, Int.reduceAdd, Int.reduceSub, Int.reduceMul, Int.reduceLE, Int.reduceLT, Int.reduceEq, Int.reduceToNat, reduceCtorEq, evL98x0, B98x0, hi, hc, he, e, IntWalk.i64_in]
        · refine .inr ⟨by omega, hm, ?_⟩
          simp -implicitDefEqProofs (disch := omega) only [go_sem, Nat.reduceBEq, Nat.reduceAdd, Nat.reduceSub, Nat.reduceMul, Nat.reduceLeDiff, Nat.reduceEqDiff, Nat.reduceLT, Int.reduceNeg, Int.reduceAdd, Int.reduceSub, Int.reduceMul, Int.reduceLE, Int.reduceLT, Int.reduceEq, Int.reduceToNat, reduceCtorEq, evL98x0, B98x0, hi, hc, he, e, IntWalk.i64_in]) (l := l - cont.length) (by omega) (by omega) 1099511627775 (by omega)
    rw [if_neg e]
    simp -implicitDefEqProofs (disch := omega) only [go_sem, Nat.reduceBEq, Nat.reduceAdd, Nat.reduceSub, Nat.reduceMul, Nat.reduceLeDiff, Nat.reduceEqDiff, Nat.reduceLT, Int.reduceNeg, Int.reduceAdd, Int.reduceSub, Int.reduceMul, Int.reduceLE, Int.reduceLT, Int.reduceEq, Int.reduceToNat, reduceCtorEq, IntWalk.i64_in, e]
    rcases hlp with ⟨s1, v, s2⟩ | ⟨s1, s2⟩
    · rw [s2, szZ_neg (by omega) s1]
      simp -implicitDefEqProofs only [go_sem, Nat.reduceBEq, Nat.reduceAdd, Nat.reduceSub, Nat.reduceMul, Nat.reduceLeDiff, Nat.reduceEqDiff, Nat.reduceLT, Int.reduceNeg, Int.reduceAdd, Int.reduceSub, Int.reduceMul, Int.reduceLE, Int.reduceLT, Int.reduceEq, Int.reduceToNat, reduceCtorEq]
    · rw [s2]
      simp -implicitDefEqProofs only [go_sem, Nat.reduceBEq, Nat.reduceAdd, Nat.reduceSub, Nat.reduceMul, Nat.reduceLeDiff, Nat.reduceEqDiff, Nat.reduceLT, Int.reduceNeg, Int.reduceAdd, Int.reduceSub, Int.reduceMul, Int.reduceLE, Int.reduceLT, Int.reduceEq, Int.reduceToNat, reduceCtorEq]
-- find164
theorem run_toValue (d : Nat) (h : Heap) (a0 : Int) (a1 : Int) (a2 : ByteArray) : callX (runD tab noExt (d + 1)) h 0 164 [.agg [.int .i64 a0, .int .i64 a1, .str a2]] = some (.agg [.int .i64 a0, .int .i64 a1, .str a2], h) := by
  simp only [callX, callO, pureDAs, mapO, pureDA, pureD, deepest, Option.map_some]
  rw [runD_eq find164 _ _ _ (by simp)]
  simp -implicitDefEqProofs (disch := omega) only [go_sem, Nat.reduceBEq, Nat.reduceAdd, Nat.reduceSub, Nat.reduceMul, Nat.reduceLeDiff, Nat.reduceEqDiff, Nat.reduceLT, Int.reduceNeg, Int.reduceAdd, Int.reduceSub, Int.reduceMul, Int.reduceLE, Int.reduceLT, Int.reduceEq, Int.reduceToNat, reduceCtorEq, BackO]
-- find100
theorem run_toValueS (d : Nat) : ToOK (d + 2) 100 fdValue := by
  intro p xs hp hx hb
  obtain ⟨cl, cont, rfl, hz⟩ := purS_Value hp
  have hl := Zip2_len hz
  rw [runD_eq find100 _ _ _ (by simp)]
  obtain ⟨h', r, e1, e2, e3⟩ := to_loop (run := runD tab noExt (d + 1)) (draw := drawI (runD tab noExt (d + 1))) (c := L100x0) (zero := [.int .i64 0, .int .i64 0, .str ⟨#[]⟩]) (cl := cl) (sz := 3) hz (fun h K => by
        rw [LoopK_eq]
        simp -implicitDefEqProofs only [go_sem, Nat.reduceBEq, Nat.reduceAdd, Nat.reduceSub, Nat.reduceMul, Nat.reduceLeDiff, Nat.reduceEqDiff, Nat.reduceLT, Int.reduceNeg, Int.reduceAdd, Int.reduceSub, Int.reduceMul, Int.reduceLE, Int.reduceLT, Int.reduceEq, Int.reduceToNat, reduceCtorEq, evL100x0, B100x0, Int.lt_irrefl]) (fun i cc x h C K hc hx hi hr hh hC hCl => by
        obtain ⟨a0, a1, a2, rfl, rfl⟩ := purR_Value hr
        have hi' : i < C.length := by omega
        have hi2 : i < cont.length := by omega
        have hh' : h[0]? = some (.rows 0 3 C) := hh
        have h0 : 0 < h.length := (List.getElem?_eq_some_iff.1 hh).1
        have he := run_toValue d h a0 a1 a2
        refine ⟨h.set 0 (.rows 0 3 (C.set i [.int .i64 a0, .int .i64 a1, .str a2])), _, [], ?_, by rw [List.getElem?_set_self h0]; rfl, ownR_mk_Value _ a0 a1 a2, List.nodup_nil, (fun j hj => by cases hj), (fun j hj _ => by rw [List.getElem?_set_ne (Ne.symm hj)]), by simp⟩
        rw [LoopK_eq]
        simp -implicitDefEqProofs (disch := omega) only [go_sem, Nat.reduceBEq, Nat.reduceAdd, Nat.reduceSub, Nat.reduceMul, Nat.reduceLeDiff, Nat.reduceEqDiff, Nat.reduceLT, Int.reduceNeg, Int.reduceAdd, Int.reduceSub, Int.reduceMul, Int.reduceLE, Int.reduceLT, Int.reduceEq, Int.reduceToNat, reduceCtorEq, evL100x0, B100x0, hi, hi2, hc, he, hh', hC, IntWalk.i64_in, IntWalk.u8_in]) (h := [.rows 0 3 (List.replicate cont.length [.int .i64 0, .int .i64 0, .str ⟨#[]⟩])]) rfl 1099511627775 (by omega)
  have k1 : ((cont.length : Int) < 4294967296) = True := eq_true (by omega)
  simp -implicitDefEqProofs (disch := omega) only [go_sem, Nat.reduceBEq, Nat.reduceAdd, Nat.reduceSub, Nat.reduceMul, Nat.reduceLeDiff, Nat.reduceEqDiff, Nat.reduceLT, Int.reduceNeg, Int.reduceAdd, Int.reduceSub, Int.reduceMul, Int.reduceLE, Int.reduceLT, Int.reduceEq, Int.reduceToNat, reduceCtorEq, small, k1]
  rw [e1]
  simp -implicitDefEqProofs only [go_sem, Nat.reduceBEq, Nat.reduceAdd, Nat.reduceSub, Nat.reduceMul, Nat.reduceLeDiff, Nat.reduceEqDiff, Nat.reduceLT, Int.reduceNeg, Int.reduceAdd, Int.reduceSub, Int.reduceMul, Int.reduceLE, Int.reduceLT, Int.reduceEq, Int.reduceToNat, reduceCtorEq]
  exact ⟨_, _, _, rfl, e2, e3⟩
-- find101
theorem run_eqValue (d : Nat) (a0 : Int) (a1 : Int) (a2 : ByteArray)  : retP (runD tab noExt (d + 1)) 101 [.agg [.int .i64 a0, .int .i64 a1, .str a2], .agg [.int .i64 a0, .int .i64 a1, .str a2]] = some [.bool true] := by
  rw [retP, runD_eq find101 _ _ _ (by simp)]
  simp -implicitDefEqProofs (disch := omega) only [go_sem, Nat.reduceBEq, Nat.reduceAdd, Nat.reduceSub, Nat.reduceMul, Nat.reduceLeDiff, Nat.reduceEqDiff, Nat.reduceLT, Int.reduceNeg, Int.reduceAdd, Int.reduceSub, Int.reduceMul, Int.reduceLE, Int.reduceLT, Int.reduceEq, Int.reduceToNat, reduceCtorEq]
-- find103
theorem run_eqValueS (d : Nat) : EqOK (d + 2) 103 fdValue := by
  intro p q xs hp hq hb
  obtain ⟨cl, cont, rfl, hz⟩ := purS_Value hp
  obtain ⟨cl', cont', rfl, hz'⟩ := purS_Value hq
  simp only [LenF, big] at hb
  have hl := Zip2_len hz
  have hl' := Zip2_len hz'
  rw [retP, runD_eq find103 _ _ _ (by simp)]
  have hlp := eq_loop (run := runD tab noExt (d + 1)) (draw := drawI (runD tab noExt (d + 1))) (c := L103x0) (n0 := 0) (cl := cl) (cl' := cl') (sz := 3) hz hz' (fun K => by
        rw [LoopS_eq, ← hl]
        simp -implicitDefEqProofs only [go_sem, Nat.reduceBEq, Nat.reduceAdd, Nat.reduceSub, Nat.reduceMul, Nat.reduceLeDiff, Nat.reduceEqDiff, Nat.reduceLT, Int.reduceNeg, Int.reduceAdd, Int.reduceSub, Int.reduceMul, Int.reduceLE, Int.reduceLT, Int.reduceEq, Int.reduceToNat, reduceCtorEq, evL103x0, B103x0, Int.lt_irrefl]) (fun i cc cc' x K hc hc' hx hi hr hr' => by
        obtain ⟨a0, a1, a2, rfl, rfl⟩ := purR_Value hr
        obtain ⟨b0, b1, b2, rfl, e⟩ := purR_Value hr'
        simp only [List.cons.injEq, U.int.injEq, U.bool.injEq, U.str.injEq, U.sub.injEq, and_true] at e
        obtain ⟨rfl, rfl, rfl⟩ := e
        have he := run_eqValue d a0 a1 a2 
        rw [LoopS_eq]
        simp -implicitDefEqProofs (disch := omega) only [go_sem, Nat.reduceBEq, Nat.reduceAdd, Nat.reduceSub, Nat.reduceMul, Nat.reduceLeDiff, Nat.reduceEqDiff, Nat.reduceLT, Int.reduceNeg, Int.reduceAdd, Int.reduceSub, Int.reduceMul, Int.reduceLE, Int.reduceLT, Int.reduceEq, Int.reduceToNat, reduceCtorEq, evL103x0, B103x0, evC_draw, evD103x0, E103x0, hi, hc, hc', he, IntWalk.i64_in]) 1099511627775 (by omega)
  simp -implicitDefEqProofs (disch := omega) only [go_sem, Nat.reduceBEq, Nat.reduceAdd, Nat.reduceSub, Nat.reduceMul, Nat.reduceLeDiff, Nat.reduceEqDiff, Nat.reduceLT, Int.reduceNeg, Int.reduceAdd, Int.reduceSub, Int.reduceMul, Int.reduceLE, Int.reduceLT, Int.reduceEq, Int.reduceToNat, reduceCtorEq, hl, hl']
  rw [hlp]
  simp -implicitDefEqProofs only [go_sem, Nat.reduceBEq, Nat.reduceAdd, Nat.reduceSub, Nat.reduceMul, Nat.reduceLeDiff, Nat.reduceEqDiff, Nat.reduceLT, Int.reduceNeg, Int.reduceAdd, Int.reduceSub, Int.reduceMul, Int.reduceLE, Int.reduceLT, Int.reduceEq, Int.reduceToNat, reduceCtorEq]
-- find121
theorem run_heldValueS (d : Nat) : HeldOK (d + 2) 121 fdValue := by
  intro p xs k k' hp hh h0 h1 hb
  obtain ⟨cl, cont, rfl, hz⟩ := purS_Value hp
  simp only [LenF, big] at hb
  simp only [HeldF] at hh
  obtain ⟨xs', e, hh⟩ := hh
  injection e with e
  subst e
  have hl := Zip2_len hz
  rw [retP, runD_eq find121 _ _ _ (by simp)]
  have hlp := held_loop (run := runD tab noExt (d + 1)) (draw := drawI (runD tab noExt (d + 1))) (c := L121x0) (n0 := 0) (R := fun c x => PurR fdValue c x ∧ LenR big big fdValue x) (cl := cl) (sz := 3) (xs := xs) (cont := cont) (Zip2_len2 hz hb.2) (fun x k k' h => HeldR_le fdValue h) (fun k K => by
        rw [LoopS_eq]
        simp -implicitDefEqProofs only [go_sem, Nat.reduceBEq, Nat.reduceAdd, Nat.reduceSub, Nat.reduceMul, Nat.reduceLeDiff, Nat.reduceEqDiff, Nat.reduceLT, Int.reduceNeg, Int.reduceAdd, Int.reduceSub, Int.reduceMul, Int.reduceLE, Int.reduceLT, Int.reduceEq, Int.reduceToNat, reduceCtorEq, evL121x0, B121x0, Int.lt_irrefl]) (fun i cc x k m K hc hx hi hr hhr h0 h1 => by
        obtain ⟨a0, a1, a2, rfl, rfl⟩ := purR_Value hr.1
        have hle := HeldR_le _ hhr
        obtain ⟨e, em⟩ := heldR_Value hhr h0 h1
        subst em
        simp only [List.cons.injEq, U.int.injEq, U.bool.injEq, U.str.injEq, U.sub.injEq, and_true] at e
        obtain ⟨rfl, rfl, rfl⟩ := e
        have ht := fun j (g0 : 0 ≤ j) (g1 : j ≤ 4611686018427387904) => run_markText d j g0 g1
        rw [LoopS_eq]
        simp -implicitDefEqProofs (disch := omega) only [go_sem, Nat.reduceBEq, Nat.reduceAdd, Nat.reduceSub, Nat.reduceMul, Nat.reduceLeDiff, Nat.reduceEqDiff, Nat.reduceLT, Int.reduceNeg, Int.reduceAdd, Int.reduceSub, Int.reduceMul, Int.reduceLE, Int.reduceLT, Int.reduceEq, Int.reduceToNat, reduceCtorEq, evL121x0, B121x0, evC_draw, evD121x0, E121x0, hi, hc, ht, IntWalk.i64_in, IntWalk.u8_in, Int.add_assoc]) hh h0 h1 1099511627775 (by omega)
  simp -implicitDefEqProofs (disch := omega) only [go_sem, Nat.reduceBEq, Nat.reduceAdd, Nat.reduceSub, Nat.reduceMul, Nat.reduceLeDiff, Nat.reduceEqDiff, Nat.reduceLT, Int.reduceNeg, Int.reduceAdd, Int.reduceSub, Int.reduceMul, Int.reduceLE, Int.reduceLT, Int.reduceEq, Int.reduceToNat, reduceCtorEq]
  rw [hlp]
  simp -implicitDefEqProofs only [go_sem, Nat.reduceBEq, Nat.reduceAdd, Nat.reduceSub, Nat.reduceMul, Nat.reduceLeDiff, Nat.reduceEqDiff, Nat.reduceLT, Int.reduceNeg, Int.reduceAdd, Int.reduceSub, Int.reduceMul, Int.reduceLE, Int.reduceLT, Int.reduceEq, Int.reduceToNat, reduceCtorEq]
-- find120
theorem run_markValueS (d : Nat) : MarkOK (d + 2) 120 fdValue := by
  intro h v xs ids k ho hn hb h0 hk
  simp only [cntF] at hk ⊢
  simp only [LenF] at hb
  have ho' := ho
  simp only [OwnF] at ho
  obtain ⟨xs', e, ⟨cl, rfl, rfl, rfl⟩ | ⟨id, st, clip, cont, r, rfl, e2, rfl, ho⟩⟩ := ho <;> injection e with e <;> subst e
  · refine ⟨h, [], ?_, ho', by simp only [HeldF]; exact ⟨[], rfl, by simp [HeldZ, sumU]⟩, by simp [LenF, AllU], fun _ _ => rfl, rfl⟩
    simp only [callX, callK]
    rw [runD_eq find120 _ _ _ (by simp)]
    simp -implicitDefEqProofs (disch := omega) only [go_sem, Nat.reduceBEq, Nat.reduceAdd, Nat.reduceSub, Nat.reduceMul, Nat.reduceLeDiff, Nat.reduceEqDiff, Nat.reduceLT, Int.reduceNeg, Int.reduceAdd, Int.reduceSub, Int.reduceMul, Int.reduceLE, Int.reduceLT, Int.reduceEq, Int.reduceToNat, reduceCtorEq]
    rw [LoopK_eq]
    simp -implicitDefEqProofs only [go_sem, Nat.reduceBEq, Nat.reduceAdd, Nat.reduceSub, Nat.reduceMul, Nat.reduceLeDiff, Nat.reduceEqDiff, Nat.reduceLT, Int.reduceNeg, Int.reduceAdd, Int.reduceSub, Int.reduceMul, Int.reduceLE, Int.reduceLT, Int.reduceEq, Int.reduceToNat, reduceCtorEq, evL120x0, B120x0, Int.lt_irrefl, resOk, sumU, Int.add_zero]
  · have hl := Zip3_len ho
    have hlb : cont.length ≤ 1099511627775 := by have := hb.1; unfold big at this; omega
    obtain ⟨h', ys, f1, f2, f3, f4, f5, f6, f7⟩ := mark_loop (run := runD tab noExt (d + 1)) (draw := drawI (runD tab noExt (d + 1))) (c := L120x0) (fs := fdValue) (id := id) (st := st) (n := cont.length) (clip := clip) (xs := xs) (h := h) (cont := cont) (r := r) (k := k) (fun h k K => by
        rw [LoopK_eq]
        simp -implicitDefEqProofs only [go_sem, Nat.reduceBEq, Nat.reduceAdd, Nat.reduceSub, Nat.reduceMul, Nat.reduceLeDiff, Nat.reduceEqDiff, Nat.reduceLT, Int.reduceNeg, Int.reduceAdd, Int.reduceSub, Int.reduceMul, Int.reduceLE, Int.reduceLT, Int.reduceEq, Int.reduceToNat, reduceCtorEq, evL120x0, B120x0, Int.lt_irrefl]) (fun i h C cc x a k K hi hh hCl hC hr hx hid hnd h0 hk => by
        obtain ⟨a0, a1, a2, rfl, rfl, rfl⟩ := ownR_Value hr
        have hcnt : cntR fdValue [.int a0, .int a1, .str a2] = 1 + 1 + 1 := by simp only [fdValue, cntR, cntF_int, cntF_bool, cntF_str] <;> omega
        rw [hcnt] at hk ⊢
        have hh' : h[id]? = some (.rows st 3 C) := hh
        have hidl : id < h.length := (List.getElem?_eq_some_iff.1 hh').1
        have hi' : i < C.length := by omega
        have hi2 : i < cont.length := by omega
        have ht := fun j (g0 : 0 ≤ j) (g1 : j ≤ 4611686018427387904) => run_markText d j g0 g1
        refine ⟨h.set id (.rows st 3 (C.set i [.int .i64 k, .int .i64 (k + 1), .str (txt (k + 2))])), [.int .i64 k, .int .i64 (k + 1), .str (txt (k + 2))], [.int k, .int (k + 1), .str (txt (k + 2))], ?_, by rw [List.getElem?_set_self hidl]; rfl, ownR_mk_Value _ (k) ((k + 1)) ((txt (k + 2))), ?_, ⟨trivial, trivial, txt_big _, trivial⟩, (fun j hj hj2 => by rw [List.getElem?_set_ne (Ne.symm hj)]), by simp⟩
        · rw [LoopK_eq]
          simp -implicitDefEqProofs (disch := omega) only [go_sem, Nat.reduceBEq, Nat.reduceAdd, Nat.reduceSub, Nat.reduceMul, Nat.reduceLeDiff, Nat.reduceEqDiff, Nat.reduceLT, Int.reduceNeg, Int.reduceAdd, Int.reduceSub, Int.reduceMul, Int.reduceLE, Int.reduceLT, Int.reduceEq, Int.reduceToNat, reduceCtorEq, evL120x0, B120x0, hi, hi2, hh', hC, ht, IntWalk.i64_in, IntWalk.u8_in, refs, refC, frzs, List.contains_nil, List.getElem?_set_self, List.length_set, List.set_set, Int.add_assoc, Int.natCast_add, Int.natCast_one, Int.cast_ofNat_Int, pures, okN, hidl, hi']
        · have hq := heldR_mk_Value k h0 (by omega)
          first | exact hq | (refine cast ?_ hq; simp only [Int.add_assoc, Int.natCast_add, Int.natCast_one, Int.cast_ofNat_Int, Int.reduceAdd]) | (simpa only [Int.add_assoc, Int.natCast_add, Int.natCast_one, Int.cast_ofNat_Int, Int.reduceAdd] using hq)
        ) rfl e2 ho hn hb.2 h0 hk 1099511627775 (by omega)
    refine ⟨h', ys, ?_, f2, by simp only [HeldF]; exact ⟨ys, rfl, f3⟩, by simp only [LenF]; exact ⟨by omega, f5⟩, f6, f7⟩
    simp only [callX, callK]
    rw [runD_eq find120 _ _ _ (by simp)]
    simp -implicitDefEqProofs (disch := omega) only [go_sem, Nat.reduceBEq, Nat.reduceAdd, Nat.reduceSub, Nat.reduceMul, Nat.reduceLeDiff, Nat.reduceEqDiff, Nat.reduceLT, Int.reduceNeg, Int.reduceAdd, Int.reduceSub, Int.reduceMul, Int.reduceLE, Int.reduceLT, Int.reduceEq, Int.reduceToNat, reduceCtorEq]
    rw [f1]
    simp -implicitDefEqProofs only [go_sem, Nat.reduceBEq, Nat.reduceAdd, Nat.reduceSub, Nat.reduceMul, Nat.reduceLeDiff, Nat.reduceEqDiff, Nat.reduceLT, Int.reduceNeg, Int.reduceAdd, Int.reduceSub, Int.reduceMul, Int.reduceLE, Int.reduceLT, Int.reduceEq, Int.reduceToNat, reduceCtorEq, resOk]
/-! ### ValueS -/
def fdValueS : List Fd := [.sub fdValue]
theorem purR_ValueS {c : List V} {x : List U} (h : PurR fdValueS c x) : ∃ (p0 : V) (y0 : List (List U)), c = [p0] ∧ x = [.sub y0] ∧ PurF (.sub fdValue) p0 (.sub y0) := by
  simp only [fdValueS, PurR] at h
  obtain ⟨v0, _, u0, _, rfl, rfl, g0, rfl, rfl⟩ := h
  have g0' := g0
  simp only [PurF] at g0'
  obtain ⟨_, _, y0, _, rfl, _⟩ := g0'
  exact ⟨v0, y0, rfl, rfl, g0⟩
theorem purR_mk_ValueS {p0 : V} {y0 : List (List U)} (g0 : PurF (.sub fdValue) p0 (.sub y0)) : PurR fdValueS [p0] [.sub y0] := by
  simp only [fdValueS, PurR]
  exact ⟨_, _, _, _, rfl, rfl, g0, rfl, rfl⟩
theorem purS_ValueS {p : V} {xs : List (List U)} (hp : PurF (.sub fdValueS) p (.sub xs)) : ∃ cl cont, p = .sl cl 1 cont ∧ Zip2 (PurR fdValueS) cont xs := by
  simp only [PurF] at hp
  obtain ⟨cl, cont, xs', rfl, e, hz⟩ := hp
  injection e with e
  subst e
  exact ⟨cl, cont, rfl, hz⟩
theorem ownR_ValueS {h : Heap} {c : List V} {x : List U} {i : List Nat} (ho : OwnR h fdValueS c x i) : ∃ (p0 : V) (y0 : List (List U)) (i0 : List Nat), c = [p0] ∧ x = [.sub y0] ∧ i = i0 ∧ OwnF h (.sub fdValue) p0 (.sub y0) i0 := by
  simp only [fdValueS, OwnR] at ho
  obtain ⟨v0, _, u0, _, i0, _, rfl, rfl, rfl, g0, rfl, rfl, rfl⟩ := ho
  have g0' := g0
  simp only [OwnF] at g0'
  obtain ⟨y0, rfl, _⟩ := g0'
  exact ⟨v0, y0, i0, rfl, rfl, by simp, g0⟩
theorem ownR_mk_ValueS {h : Heap} {p0 : V} {y0 : List (List U)} {i0 : List Nat} (g0 : OwnF h (.sub fdValue) p0 (.sub y0) i0) : OwnR h fdValueS [p0] [.sub y0] (i0) := by
  simp only [fdValueS, OwnR]
  exact ⟨_, _, _, _, i0, [], rfl, rfl, (by simp), g0, rfl, rfl, rfl⟩
theorem heldR_ValueS {x : List U} {k k' : Int} (h : HeldR fdValueS x k k') (h0 : 0 ≤ k) (h1 : k' ≤ 4611686018427387904) : ∃ (y0 : List (List U)) (m0 : Int), x = [.sub y0] ∧ HeldF (.sub fdValue) (.sub y0) k m0 ∧ k' = m0 := by
  simp only [fdValueS, HeldR] at h
  obtain ⟨u0, _, m0, rfl, g0, rfl, ek⟩ := h
  have l0 := HeldF_le _ g0
  have g0' := g0
  simp only [HeldF] at g0'
  obtain ⟨y0, rfl, _⟩ := g0'
  exact ⟨y0, m0, by simp (disch := omega) only [IntWalk.i64_in, Int.add_assoc, Int.reduceAdd], by simpa only [Int.add_assoc, Int.reduceAdd] using g0, by simp only [ek, Int.add_assoc, Int.reduceAdd]⟩
theorem heldR_mk_ValueS (k : Int) (y0 : List (List U)) (m0 : Int) (g0 : HeldF (.sub fdValue) (.sub y0) k m0) (h0 : 0 ≤ k) (h1 : m0 ≤ 4611686018427387904) : HeldR fdValueS [.sub y0] k (m0) := by
  have l0 := HeldF_le _ g0
  simp only [fdValueS, HeldR]
  exact ⟨_, _, m0, rfl, g0, rfl, by first | rfl | simp only [Int.add_assoc, Int.reduceAdd]⟩
-- find38
theorem run_eqValueSS (d : Nat) : EqOK (d + 3) 38 fdValueS := by
  intro p q xs hp hq hb
  obtain ⟨cl, cont, rfl, hz⟩ := purS_ValueS hp
  obtain ⟨cl', cont', rfl, hz'⟩ := purS_ValueS hq
  simp only [LenF, big] at hb
  have hl := Zip2_len hz
  have hl' := Zip2_len hz'
  rw [retP, runD_eq find38 _ _ _ (by simp)]
  have hlp := eq_loop (run := runD tab noExt (d + 2)) (draw := drawI (runD tab noExt (d + 2))) (c := L38x0) (n0 := 0) (cl := cl) (cl' := cl') (sz := 1) hz hz' (fun K => by
        rw [LoopS_eq, ← hl]
        simp -implicitDefEqProofs only [go_sem, Nat.reduceBEq, Nat.reduceAdd, Nat.reduceSub, Nat.reduceMul, Nat.reduceLeDiff, Nat.reduceEqDiff, Nat.reduceLT, Int.reduceNeg, Int.reduceAdd, Int.reduceSub, Int.reduceMul, Int.reduceLE, Int.reduceLT, Int.reduceEq, Int.reduceToNat, reduceCtorEq, evL38x0, B38x0, Int.lt_irrefl]) (fun i cc cc' x K hc hc' hx hi hr hr' => by
        obtain ⟨p0, y0, rfl, rfl, g0⟩ := purR_ValueS hr
        obtain ⟨p0q, y0q, rfl, e, q0⟩ := purR_ValueS hr'
        simp only [List.cons.injEq, U.int.injEq, U.bool.injEq, U.str.injEq, U.sub.injEq, and_true] at e
        subst e
        have hs := AllU_at hb.2 hx
        simp only [LenR, fdValueS] at hs
        have he := run_eqValueS d g0 q0 hs.1
        obtain ⟨cl0, ct0, rfl, hz0⟩ := purS_Value g0
        obtain ⟨cm0, cu0, rfl, hy0⟩ := purS_Value q0
        rw [LoopS_eq]
        simp -implicitDefEqProofs (disch := omega) only [go_sem, Nat.reduceBEq, Nat.reduceAdd, Nat.reduceSub, Nat.reduceMul, Nat.reduceLeDiff, Nat.reduceEqDiff, Nat.reduceLT, Int.reduceNeg, Int.reduceAdd, Int.reduceSub, Int.reduceMul, Int.reduceLE, Int.reduceLT, Int.reduceEq, Int.reduceToNat, reduceCtorEq, evL38x0, B38x0, evC_draw, evD38x0, E38x0, hi, hc, hc', he, IntWalk.i64_in]) 1099511627775 (by omega)
  simp -implicitDefEqProofs (disch := omega) only [go_sem, Nat.reduceBEq, Nat.reduceAdd, Nat.reduceSub, Nat.reduceMul, Nat.reduceLeDiff, Nat.reduceEqDiff, Nat.reduceLT, Int.reduceNeg, Int.reduceAdd, Int.reduceSub, Int.reduceMul, Int.reduceLE, Int.reduceLT, Int.reduceEq, Int.reduceToNat, reduceCtorEq, hl, hl']
  rw [hlp]
  simp -implicitDefEqProofs only [go_sem, Nat.reduceBEq, Nat.reduceAdd, Nat.reduceSub, Nat.reduceMul, Nat.reduceLeDiff, Nat.reduceEqDiff, Nat.reduceLT, Int.reduceNeg, Int.reduceAdd, Int.reduceSub, Int.reduceMul, Int.reduceLE, Int.reduceLT, Int.reduceEq, Int.reduceToNat, reduceCtorEq]
-- find136
theorem run_heldValueSS (d : Nat) : HeldOK (d + 3) 136 fdValueS := by
  intro p xs k k' hp hh h0 h1 hb
  obtain ⟨cl, cont, rfl, hz⟩ := purS_ValueS hp
  simp only [LenF, big] at hb
  simp only [HeldF] at hh
  obtain ⟨xs', e, hh⟩ := hh
  injection e with e
  subst e
  have hl := Zip2_len hz
  rw [retP, runD_eq find136 _ _ _ (by simp)]
  have hlp := held_loop (run := runD tab noExt (d + 2)) (draw := drawI (runD tab noExt (d + 2))) (c := L136x0) (n0 := 0) (R := fun c x => PurR fdValueS c x ∧ LenR big big fdValueS x) (cl := cl) (sz := 1) (xs := xs) (cont := cont) (Zip2_len2 hz hb.2) (fun x k k' h => HeldR_le fdValueS h) (fun k K => by
        rw [LoopS_eq]
        simp -implicitDefEqProofs only [go_sem, Nat.reduceBEq, Nat.reduceAdd, Nat.reduceSub, Nat.reduceMul, Nat.reduceLeDiff, Nat.reduceEqDiff, Nat.reduceLT, Int.reduceNeg, Int.reduceAdd, Int.reduceSub, Int.reduceMul, Int.reduceLE, Int.reduceLT, Int.reduceEq, Int.reduceToNat, reduceCtorEq, evL136x0, B136x0, Int.lt_irrefl]) (fun i cc x k m K hc hx hi hr hhr h0 h1 => by
        obtain ⟨p0, y0, rfl, rfl, g0⟩ := purR_ValueS hr.1
        have hle := HeldR_le _ hhr
        have hs := hr.2
        simp only [LenR, fdValueS] at hs
        obtain ⟨z0, m0, e, k0, em⟩ := heldR_ValueS hhr h0 h1
        rw [em]
        simp only [List.cons.injEq, U.int.injEq, U.bool.injEq, U.str.injEq, U.sub.injEq, and_true] at e
        subst e
        have l0 := HeldF_le _ k0
        have he0 := run_heldValueS d g0 k0 (by omega) (by omega) hs.1
        have f0 : (m0 < 0) = False := eq_false (by omega)
        obtain ⟨cl0, ct0, rfl, hz0⟩ := purS_Value g0
        rw [LoopS_eq]
        simp -implicitDefEqProofs (disch := omega) only [go_sem, Nat.reduceBEq, Nat.reduceAdd, Nat.reduceSub, Nat.reduceMul, Nat.reduceLeDiff, Nat.reduceEqDiff, Nat.reduceLT, Int.reduceNeg, Int.reduceAdd, Int.reduceSub, Int.reduceMul, Int.reduceLE, Int.reduceLT, Int.reduceEq, Int.reduceToNat, reduceCtorEq, evL136x0, B136x0, hi, hc, he0, f0, IntWalk.i64_in, IntWalk.u8_in, Int.add_assoc]) hh h0 h1 1099511627775 (by omega)
  simp -implicitDefEqProofs (disch := omega) only [go_sem, Nat.reduceBEq, Nat.reduceAdd, Nat.reduceSub, Nat.reduceMul, Nat.reduceLeDiff, Nat.reduceEqDiff, Nat.reduceLT, Int.reduceNeg, Int.reduceAdd, Int.reduceSub, Int.reduceMul, Int.reduceLE, Int.reduceLT, Int.reduceEq, Int.reduceToNat, reduceCtorEq]
  rw [hlp]
  simp -implicitDefEqProofs only [go_sem, Nat.reduceBEq, Nat.reduceAdd, Nat.reduceSub, Nat.reduceMul, Nat.reduceLeDiff, Nat.reduceEqDiff, Nat.reduceLT, Int.reduceNeg, Int.reduceAdd, Int.reduceSub, Int.reduceMul, Int.reduceLE, Int.reduceLT, Int.reduceEq, Int.reduceToNat, reduceCtorEq]
-- find134
theorem run_markValueSS (d : Nat) : MarkOK (d + 3) 134 fdValueS := by
  intro h v xs ids k ho hn hb h0 hk
  simp only [cntF] at hk ⊢
  simp only [LenF] at hb
  have ho' := ho
  simp only [OwnF] at ho
  obtain ⟨xs', e, ⟨cl, rfl, rfl, rfl⟩ | ⟨id, st, clip, cont, r, rfl, e2, rfl, ho⟩⟩ := ho <;> injection e with e <;> subst e
  · refine ⟨h, [], ?_, ho', by simp only [HeldF]; exact ⟨[], rfl, by simp [HeldZ, sumU]⟩, by simp [LenF, AllU], fun _ _ => rfl, rfl⟩
    simp only [callX, callK]
    rw [runD_eq find134 _ _ _ (by simp)]
    simp -implicitDefEqProofs (disch := omega) only [go_sem, Nat.reduceBEq, Nat.reduceAdd, Nat.reduceSub, Nat.reduceMul, Nat.reduceLeDiff, Nat.reduceEqDiff, Nat.reduceLT, Int.reduceNeg, Int.reduceAdd, Int.reduceSub, Int.reduceMul, Int.reduceLE, Int.reduceLT, Int.reduceEq, Int.reduceToNat, reduceCtorEq]
    rw [LoopK_eq]
    simp -implicitDefEqProofs only [go_sem, Nat.reduceBEq, Nat.reduceAdd, Nat.reduceSub, Nat.reduceMul, Nat.reduceLeDiff, Nat.reduceEqDiff, Nat.reduceLT, Int.reduceNeg, Int.reduceAdd, Int.reduceSub, Int.reduceMul, Int.reduceLE, Int.reduceLT, Int.reduceEq, Int.reduceToNat, reduceCtorEq, evL134x0, B134x0, Int.lt_irrefl, resOk, sumU, Int.add_zero]
  · have hl := Zip3_len ho
    have hlb : cont.length ≤ 1099511627775 := by have := hb.1; unfold big at this; omega
    obtain ⟨h', ys, f1, f2, f3, f4, f5, f6, f7⟩ := mark_loop (run := runD tab noExt (d + 2)) (draw := drawI (runD tab noExt (d + 2))) (c := L134x0) (fs := fdValueS) (id := id) (st := st) (n := cont.length) (clip := clip) (xs := xs) (h := h) (cont := cont) (r := r) (k := k) (fun h k K => by
        rw [LoopK_eq]
        simp -implicitDefEqProofs only [go_sem, Nat.reduceBEq, Nat.reduceAdd, Nat.reduceSub, Nat.reduceMul, Nat.reduceLeDiff, Nat.reduceEqDiff, Nat.reduceLT, Int.reduceNeg, Int.reduceAdd, Int.reduceSub, Int.reduceMul, Int.reduceLE, Int.reduceLT, Int.reduceEq, Int.reduceToNat, reduceCtorEq, evL134x0, B134x0, Int.lt_irrefl]) (fun i h C cc x a k K hi hh hCl hC hr hx hid hnd h0 hk => by
        obtain ⟨p0, y0, i0, rfl, rfl, rfl, g0⟩ := ownR_ValueS hr
        have hcnt : cntR fdValueS [.sub y0] = cntF (.sub fdValue) (.sub y0) := by simp only [fdValueS, cntR, cntF_int, cntF_bool, cntF_str] <;> omega
        have hct0 : 0 ≤ cntF (.sub fdValue) (.sub y0) := Nat.zero_le _
        rw [hcnt] at hk ⊢
        generalize hcn0 : cntF (.sub fdValue) (.sub y0) = N0 at hk hct0 hcnt ⊢
        have hh' : h[id]? = some (.nest st 1 C) := hh
        have hidl : id < h.length := (List.getElem?_eq_some_iff.1 hh').1
        have hi' : i < C.length := by omega
        have hi2 : i < cont.length := by omega
        have hs := hx
        simp only [LenR, fdValueS] at hs
        obtain ⟨ha0, z0, m01, m02, m03, m04, m05, m06⟩ := run_markValueS d (h := h) (k := k) (OwnF_frame _ g0 (fun j hj => rfl)) hnd hs.1 (by omega) (by rw [hcn0]; omega)
        rw [hcn0] at m01 m03
        have hr0 : ha0[id]? = some (.nest st 1 (C)) := (m05 id hid).trans hh'
        have hl0 : id < ha0.length := (List.getElem?_eq_some_iff.1 hr0).1
        refine ⟨ha0, [p0], [.sub z0], ?_, by rw [hr0]; first | rfl | (rw [set_same hC]; rfl), ownR_mk_ValueS (OwnF_frame _ m02 (fun j hj => rfl)), ?_, ⟨m04, trivial⟩, (fun j hj hj2 => by rw [m05 j hj2]), by simp only [List.length_set, m06]⟩
        · rw [LoopK_eq]
          simp -implicitDefEqProofs (disch := omega) only [go_sem, Nat.reduceBEq, Nat.reduceAdd, Nat.reduceSub, Nat.reduceMul, Nat.reduceLeDiff, Nat.reduceEqDiff, Nat.reduceLT, Int.reduceNeg, Int.reduceAdd, Int.reduceSub, Int.reduceMul, Int.reduceLE, Int.reduceLT, Int.reduceEq, Int.reduceToNat, reduceCtorEq, evL134x0, B134x0, hi, hi2, hh', hC, m01, hr0, hl0, IntWalk.i64_in, IntWalk.u8_in, refs, refC, frzs, List.contains_nil, List.getElem?_set_self, List.length_set, List.set_set, Int.add_assoc, Int.natCast_add, Int.natCast_one, Int.cast_ofNat_Int, pures, okN, hidl, hi']
        · have hq := heldR_mk_ValueS k z0 _ m03 h0 (by omega)
          first | exact hq | (refine cast ?_ hq; simp only [Int.add_assoc, Int.natCast_add, Int.natCast_one, Int.cast_ofNat_Int, Int.reduceAdd]) | (simpa only [Int.add_assoc, Int.natCast_add, Int.natCast_one, Int.cast_ofNat_Int, Int.reduceAdd] using hq)
        ) rfl e2 ho hn hb.2 h0 hk 1099511627775 (by omega)
    refine ⟨h', ys, ?_, f2, by simp only [HeldF]; exact ⟨ys, rfl, f3⟩, by simp only [LenF]; exact ⟨by omega, f5⟩, f6, f7⟩
    simp only [callX, callK]
    rw [runD_eq find134 _ _ _ (by simp)]
    simp -implicitDefEqProofs (disch := omega) only [go_sem, Nat.reduceBEq, Nat.reduceAdd, Nat.reduceSub, Nat.reduceMul, Nat.reduceLeDiff, Nat.reduceEqDiff, Nat.reduceLT, Int.reduceNeg, Int.reduceAdd, Int.reduceSub, Int.reduceMul, Int.reduceLE, Int.reduceLT, Int.reduceEq, Int.reduceToNat, reduceCtorEq]
    rw [f1]
    simp -implicitDefEqProofs only [go_sem, Nat.reduceBEq, Nat.reduceAdd, Nat.reduceSub, Nat.reduceMul, Nat.reduceLeDiff, Nat.reduceEqDiff, Nat.reduceLT, Int.reduceNeg, Int.reduceAdd, Int.reduceSub, Int.reduceMul, Int.reduceLE, Int.reduceLT, Int.reduceEq, Int.reduceToNat, reduceCtorEq, resOk]
/-! ### Version -/
def fdVersion : List Fd := [.int .i64, .int .i64, .int .i64, .sub fdValue]
theorem purR_Version {c : List V} {x : List U} (h : PurR fdVersion c x) : ∃ (a0 : Int) (a1 : Int) (a2 : Int) (p3 : V) (y3 : List (List U)), c = [.int .i64 a0, .int .i64 a1, .int .i64 a2, p3] ∧ x = [.int a0, .int a1, .int a2, .sub y3] ∧ PurF (.sub fdValue) p3 (.sub y3) := by
  simp only [fdVersion, PurR] at h
  obtain ⟨v0, _, u0, _, rfl, rfl, g0, v1, _, u1, _, rfl, rfl, g1, v2, _, u2, _, rfl, rfl, g2, v3, _, u3, _, rfl, rfl, g3, rfl, rfl⟩ := h
  simp only [PurF] at g0
  obtain ⟨a0, rfl, rfl⟩ := g0
  simp only [PurF] at g1
  obtain ⟨a1, rfl, rfl⟩ := g1
  simp only [PurF] at g2
  obtain ⟨a2, rfl, rfl⟩ := g2
  have g3' := g3
  simp only [PurF] at g3'
  obtain ⟨_, _, y3, _, rfl, _⟩ := g3'
  exact ⟨a0, a1, a2, v3, y3, rfl, rfl, g3⟩
theorem purR_mk_Version {a0 : Int} {a1 : Int} {a2 : Int} {p3 : V} {y3 : List (List U)} (g3 : PurF (.sub fdValue) p3 (.sub y3)) : PurR fdVersion [.int .i64 a0, .int .i64 a1, .int .i64 a2, p3] [.int a0, .int a1, .int a2, .sub y3] := by
  simp only [fdVersion, PurR]
  exact ⟨_, _, _, _, rfl, rfl, (by simp only [PurF]; first | exact ⟨a0, rfl, rfl⟩ | exact ⟨a0, rfl⟩ | trivial), _, _, _, _, rfl, rfl, (by simp only [PurF]; first | exact ⟨a1, rfl, rfl⟩ | exact ⟨a1, rfl⟩ | trivial), _, _, _, _, rfl, rfl, (by simp only [PurF]; first | exact ⟨a2, rfl, rfl⟩ | exact ⟨a2, rfl⟩ | trivial), _, _, _, _, rfl, rfl, g3, rfl, rfl⟩
theorem purS_Version {p : V} {xs : List (List U)} (hp : PurF (.sub fdVersion) p (.sub xs)) : ∃ cl cont, p = .sl cl 4 cont ∧ Zip2 (PurR fdVersion) cont xs := by
  simp only [PurF] at hp
  obtain ⟨cl, cont, xs', rfl, e, hz⟩ := hp
  injection e with e
  subst e
  exact ⟨cl, cont, rfl, hz⟩
theorem ownR_Version {h : Heap} {c : List V} {x : List U} {i : List Nat} (ho : OwnR h fdVersion c x i) : ∃ (a0 : Int) (a1 : Int) (a2 : Int) (p3 : V) (y3 : List (List U)) (i3 : List Nat), c = [.int .i64 a0, .int .i64 a1, .int .i64 a2, p3] ∧ x = [.int a0, .int a1, .int a2, .sub y3] ∧ i = i3 ∧ OwnF h (.sub fdValue) p3 (.sub y3) i3 := by
  simp only [fdVersion, OwnR] at ho
  obtain ⟨v0, _, u0, _, i0, _, rfl, rfl, rfl, g0, v1, _, u1, _, i1, _, rfl, rfl, rfl, g1, v2, _, u2, _, i2, _, rfl, rfl, rfl, g2, v3, _, u3, _, i3, _, rfl, rfl, rfl, g3, rfl, rfl, rfl⟩ := ho
  simp only [OwnF] at g0
  obtain ⟨a0, rfl, rfl, rfl⟩ := g0
  simp only [OwnF] at g1
  obtain ⟨a1, rfl, rfl, rfl⟩ := g1
  simp only [OwnF] at g2
  obtain ⟨a2, rfl, rfl, rfl⟩ := g2
  have g3' := g3
  simp only [OwnF] at g3'
  obtain ⟨y3, rfl, _⟩ := g3'
  exact ⟨a0, a1, a2, v3, y3, i3, rfl, rfl, by simp, g3⟩
theorem ownR_mk_Version {h : Heap} {a0 : Int} {a1 : Int} {a2 : Int} {p3 : V} {y3 : List (List U)} {i3 : List Nat} (g3 : OwnF h (.sub fdValue) p3 (.sub y3) i3) : OwnR h fdVersion [.int .i64 a0, .int .i64 a1, .int .i64 a2, p3] [.int a0, .int a1, .int a2, .sub y3] (i3) := by
  simp only [fdVersion, OwnR]
  exact ⟨_, _, _, _, [], i3, rfl, rfl, (by simp), (by simp only [OwnF]; first | exact ⟨a0, rfl, rfl, rfl⟩ | exact ⟨a0, rfl, rfl, trivial⟩ | exact ⟨a0, rfl, rfl⟩ | exact ⟨a0, rfl⟩ | trivial), _, _, _, _, [], i3, rfl, rfl, (by simp), (by simp only [OwnF]; first | exact ⟨a1, rfl, rfl, rfl⟩ | exact ⟨a1, rfl, rfl, trivial⟩ | exact ⟨a1, rfl, rfl⟩ | exact ⟨a1, rfl⟩ | trivial), _, _, _, _, [], i3, rfl, rfl, (by simp), (by simp only [OwnF]; first | exact ⟨a2, rfl, rfl, rfl⟩ | exact ⟨a2, rfl, rfl, trivial⟩ | exact ⟨a2, rfl, rfl⟩ | exact ⟨a2, rfl⟩ | trivial), _, _, _, _, i3, [], rfl, rfl, (by simp), g3, rfl, rfl, rfl⟩
theorem heldR_Version {x : List U} {k k' : Int} (h : HeldR fdVersion x k k') (h0 : 0 ≤ k) (h1 : k' ≤ 4611686018427387904) : ∃ (y3 : List (List U)) (m3 : Int), x = [.int k, .int (k + 1), .int (k + 2), .sub y3] ∧ HeldF (.sub fdValue) (.sub y3) (k + 3) m3 ∧ k' = m3 := by
  simp only [fdVersion, HeldR] at h
  obtain ⟨u0, _, m0, rfl, g0, u1, _, m1, rfl, g1, u2, _, m2, rfl, g2, u3, _, m3, rfl, g3, rfl, ek⟩ := h
  simp only [HeldF] at g0
  obtain ⟨rfl, rfl⟩ := g0
  simp only [HeldF] at g1
  obtain ⟨rfl, rfl⟩ := g1
  simp only [HeldF] at g2
  obtain ⟨rfl, rfl⟩ := g2
  have l3 := HeldF_le _ g3
  have g3' := g3
  simp only [HeldF] at g3'
  obtain ⟨y3, rfl, _⟩ := g3'
  exact ⟨y3, m3, by simp (disch := omega) only [IntWalk.i64_in, Int.add_assoc, Int.reduceAdd], by simpa only [Int.add_assoc, Int.reduceAdd] using g3, by simp only [ek, Int.add_assoc, Int.reduceAdd]⟩
theorem heldR_mk_Version (k : Int) (y3 : List (List U)) (m3 : Int) (g3 : HeldF (.sub fdValue) (.sub y3) (k + 3) m3) (h0 : 0 ≤ k) (h1 : m3 ≤ 4611686018427387904) : HeldR fdVersion [.int k, .int (k + 1), .int (k + 2), .sub y3] k (m3) := by
  have l3 := HeldF_le _ g3
  simp only [fdVersion, HeldR]
  exact ⟨_, _, (k + 1), rfl, (by simp only [HeldF]; first | trivial | exact ⟨rfl, by omega⟩ | exact ⟨by simp (disch := omega) only [IntWalk.i64_in], by omega⟩ | (simp (disch := omega) only [IntWalk.i64_in, true_and, Int.add_assoc, Int.reduceAdd]; done) | (simp (disch := omega) only [IntWalk.i64_in, true_and, Int.add_assoc, Int.reduceAdd]; omega)), _, _, (k + 2), rfl, (by simp only [HeldF]; first | trivial | exact ⟨rfl, by omega⟩ | exact ⟨by simp (disch := omega) only [IntWalk.i64_in], by omega⟩ | (simp (disch := omega) only [IntWalk.i64_in, true_and, Int.add_assoc, Int.reduceAdd]; done) | (simp (disch := omega) only [IntWalk.i64_in, true_and, Int.add_assoc, Int.reduceAdd]; omega)), _, _, (k + 3), rfl, (by simp only [HeldF]; first | trivial | exact ⟨rfl, by omega⟩ | exact ⟨by simp (disch := omega) only [IntWalk.i64_in], by omega⟩ | (simp (disch := omega) only [IntWalk.i64_in, true_and, Int.add_assoc, Int.reduceAdd]; done) | (simp (disch := omega) only [IntWalk.i64_in, true_and, Int.add_assoc, Int.reduceAdd]; omega)), _, _, m3, rfl, g3, rfl, by first | rfl | simp only [Int.add_assoc, Int.reduceAdd]⟩
-- find113
theorem run_szVersion (d : Nat) (a0 : Int) (a1 : Int) (a2 : Int) (p3 : V) (y3 : List (List U)) (g3 : PurF (.sub fdValue) p3 (.sub y3)) (l : Int) (hb : LenR 9223372036854775807 9223372036854775807 fdVersion [.int a0, .int a1, .int a2, .sub y3]) (h0 : 0 ≤ l) (h1 : l ≤ 1048576) : retP (runD tab noExt (d + 3)) 113 [.agg [.int .i64 a0, .int .i64 a1, .int .i64 a2, p3], .int .i64 l] = some [.int .i64 (szR fdVersion [.int a0, .int a1, .int a2, .sub y3] l)] := by
  rw [retP, runD_eq find113 _ _ _ (by simp)]
  have e0 : (l < 0) = False := eq_false (by omega)
  simp only [fdVersion, LenR] at hb
  have he0 := run_szValueS d l g3 hb.2.2.2.1 (by omega) (by omega)
  have hm0 : szF (.sub fdValue) (.sub y3) l ≤ 1048576 := by have := szF_le (f := .sub fdValue) (u := .sub y3) (l := l) (by decide) (by omega) (by omega); omega
  generalize hr0 : szF (.sub fdValue) (.sub y3) l = r0 at he0 hm0
  by_cases e1 : r0 < 0
  · obtain ⟨cl3, ct3, rfl, hz3⟩ := purS_Value g3; simp -implicitDefEqProofs (disch := omega) only [go_sem, Nat.reduceBEq, Nat.reduceAdd, Nat.reduceSub, Nat.reduceMul, Nat.reduceLeDiff, Nat.reduceEqDiff, Nat.reduceLT, Int.reduceNeg, Int.reduceAdd, Int.reduceSub, Int.reduceMul, Int.reduceLE, Int.reduceLT, Int.reduceEq, Int.reduceToNat, reduceCtorEq, IntWalk.i64_in, szR, szF_int, szF_bool, szF_str, fdVersion, e0, hr0, he0, e1, if_true, if_false]
  · obtain ⟨cl3, ct3, rfl, hz3⟩ := purS_Value g3; simp -implicitDefEqProofs (disch := omega) only [go_sem, Nat.reduceBEq, Nat.reduceAdd, Nat.reduceSub, Nat.reduceMul, Nat.reduceLeDiff, Nat.reduceEqDiff, Nat.reduceLT, Int.reduceNeg, Int.reduceAdd, Int.reduceSub, Int.reduceMul, Int.reduceLE, Int.reduceLT, Int.reduceEq, Int.reduceToNat, reduceCtorEq, IntWalk.i64_in, szR, szF_int, szF_bool, szF_str, fdVersion, e0, hr0, he0, e1, if_true, if_false]
-- find46
theorem run_szVersionS (d : Nat) {p : V} {xs : List (List U)} (l : Int) (hp : PurF (.sub fdVersion) p (.sub xs)) (hb : LenF 9223372036854775807 9223372036854775807 (.sub fdVersion) (.sub xs)) (h0 : 0 ≤ l) (h1 : l ≤ 1048576) : retP (runD tab noExt (d + 4)) 46 [p, .int .i64 l] = some [.int .i64 (szF (.sub fdVersion) (.sub xs) l)] := by
  obtain ⟨cl, cont, rfl, hz⟩ := purS_Version hp
  simp only [LenF] at hb
  obtain ⟨hb1, hb2⟩ := hb
  have hl := Zip2_len hz
  rw [retP, runD_eq find46 _ _ _ (by simp)]
  rw [szF, ← hl]
  by_cases e : l - (cont.length : Int) < 0
  · simp -implicitDefEqProofs (disch := omega) only [go_sem, Nat.reduceBEq, Nat.reduceAdd, Nat.reduceSub, Nat.reduceMul, Nat.reduceLeDiff, Nat.reduceEqDiff, Nat.reduceLT, Int.reduceNeg, Int.reduceAdd, Int.reduceSub, Int.reduceMul, Int.reduceLE, Int.reduceLT, Int.reduceEq, Int.reduceToNat, reduceCtorEq, IntWalk.i64_in, e, if_true]
  · have hlp := sz_loop (run := runD tab noExt (d + 3)) (draw := drawI (runD tab noExt (d + 3))) (c := L46x0) (n0 := 0) (SR := szR fdVersion) (cl := cl) (sz := 4) hz (fun l K => by
        rw [LoopS_eq]
        simp -implicitDefEqProofs only [go_sem, Nat.reduceBEq, Nat.reduceAdd, Nat.reduceSub, Nat.reduceMul, Nat.reduceLeDiff, Nat.reduceEqDiff, Nat.reduceLT, Int.reduceNeg, Int.reduceAdd, Int.reduceSub, Int.reduceMul, Int.reduceLE, Int.reduceLT, Int.reduceEq, Int.reduceToNat, reduceCtorEq, evL46x0, B46x0, Int.lt_irrefl]) (fun i cc x l K hc hx hi hr h0 h1 => by
        obtain ⟨a0, a1, a2, p3, y3, rfl, rfl, g3⟩ := purR_Version hr
        have hs := AllU_at hb2 hx
        have hm : szR fdVersion [.int a0, .int a1, .int a2, .sub y3] l ≤ l := szR_le (by decide) h0 h1
        have he := run_szVersion d a0 a1 a2 p3 y3 g3 l hs h0 h1
        obtain ⟨cl3, cont3, rfl, hz3⟩ := purS_Value g3
        generalize szR fdVersion [.int a0, .int a1, .int a2, .sub y3] l = r at he hm ⊢
        rw [LoopS_eq]
        by_cases e : r < 0
        · refine .inl ⟨e, .int .i64 r, ?_⟩
          simp -implicitDefEqProofs (disch := omega) only [go_sem, Nat.reduceBEq, Nat.reduceAdd, Nat.reduceSub, Nat.reduceMul, Nat.reduceLeDiff, Nat.reduceEqDiff, Nat.reduceLT, Int.reduceNeg, Int.reduceAdd, Int.reduceSub, Int.reduceMul, Int.reduceLE, Int.reduceLT, Int.reduceEq, Int.reduceToNat, reduceCtorEq, evL46x0, B46x0, hi, hc, he, e, IntWalk.i64_in]
        · refine .inr ⟨by omega, hm, ?_⟩
          simp -implicitDefEqProofs (disch := omega) only [go_sem, Nat.reduceBEq, Nat.reduceAdd, Nat.reduceSub, Nat.reduceMul, Nat.reduceLeDiff, Nat.reduceEqDiff, Nat.reduceLT, Int.reduceNeg, Int.reduceAdd, Int.reduceSub, Int.reduceMul, Int.reduceLE, Int.reduceLT, Int.reduceEq, Int.reduceToNat, reduceCtorEq, evL46x0, B46x0, hi, hc, he, e, IntWalk.i64_in]) (l := l - cont.length) (by omega) (by omega) 1099511627775 (by omega)
    rw [if_neg e]
    simp -implicitDefEqProofs (disch := omega) only [go_sem, Nat.reduceBEq, Nat.reduceAdd, Nat.reduceSub, Nat.reduceMul, Nat.reduceLeDiff, Nat.reduceEqDiff, Nat.reduceLT, Int.reduceNeg, Int.reduceAdd, Int.reduceSub, Int.reduceMul, Int.reduceLE, Int.reduceLT, Int.reduceEq, Int.reduceToNat, reduceCtorEq, IntWalk.i64_in, e]
    rcases hlp with ⟨s1, v, s2⟩ | ⟨s1, s2⟩
    · rw [s2, szZ_neg (by omega) s1]
      simp -implicitDefEqProofs only [go_sem, Nat.reduceBEq, Nat.reduceAdd, Nat.reduceSub, Nat.reduceMul, Nat.reduceLeDiff, Nat.reduceEqDiff, Nat.reduceLT, Int.reduceNeg, Int.reduceAdd, Int.reduceSub, Int.reduceMul, Int.reduceLE, Int.reduceLT, Int.reduceEq, Int.reduceToNat, reduceCtorEq]
    · rw [s2]
      simp -implicitDefEqProofs only [go_sem, Nat.reduceBEq, Nat.reduceAdd, Nat.reduceSub, Nat.reduceMul, Nat.reduceLeDiff, Nat.reduceEqDiff, Nat.reduceLT, Int.reduceNeg, Int.reduceAdd, Int.reduceSub, Int.reduceMul, Int.reduceLE, Int.reduceLT, Int.reduceEq, Int.reduceToNat, reduceCtorEq]
-- find116
theorem run0_toVersion (d : Nat) (a0 : Int) (a1 : Int) (a2 : Int) {p3 : V} {y3 : List (List U)} (g3 : PurF (.sub fdValue) p3 (.sub y3)) (b3 : LenF 1048576 1048576 (.sub fdValue) (.sub y3)) : ∃ cells hc ids, runD tab noExt (d + 3) 116 [.agg [.int .i64 a0, .int .i64 a1, .int .i64 a2, p3]] [] = some ([.agg cells], hc) ∧ OwnR hc fdVersion cells [.int a0, .int a1, .int a2, .sub y3] ids ∧ ids.Nodup ∧ cells.all scalar = false := by
  rw [runD_eq find116 _ _ _ (by simp)]
  obtain ⟨v3, hc3, j3, r3, o3, n3⟩ := run_toValueS d g3 (by have := b3; simp only [LenF] at this; exact this.1) (by have := b3; simp only [LenF] at this; exact this.2)
  obtain ⟨w3, k3, a3, c31, c32, c33, c34, c35, c36⟩ := own_call (h := ([.box [.int .i64 a0, .int .i64 a1, .int .i64 a2, p3], .box [.int .i64 0, .int .i64 0, .int .i64 0, .sl true 3 []], .box [.int .i64 a0, .int .i64 a1, .int .i64 a2, .sl true 3 []]] : Heap)) (args := [p3]) (by simp only [pureDAs, mapO, pureDA_pur g3]) r3 o3 n3
  have f30 : k3[0]? = some (.box [.int .i64 a0, .int .i64 a1, .int .i64 a2, p3]) := c35 0 (by simp)
  have f31 : k3[1]? = some (.box [.int .i64 0, .int .i64 0, .int .i64 0, .sl true 3 []]) := c35 1 (by simp)
  have f32 : k3[2]? = some (.box [.int .i64 a0, .int .i64 a1, .int .i64 a2, .sl true 3 []]) := c35 2 (by simp)
  have z3 : 2 < k3.length := (List.getElem?_eq_some_iff.1 f32).1
  have L : ∀ (h : Heap) (b c : Blk) (j : Nat), 3 ≤ j → ((h.set 2 b).set 1 c)[j]? = h[j]? := fun h b c j hj => by rw [List.getElem?_set_ne (by omega), List.getElem?_set_ne (by omega)]
  have hw3 := own_cases c32
  refine ⟨[.int .i64 a0, .int .i64 a1, .int .i64 a2, w3], (k3.set 2 (.box [.int .i64 a0, .int .i64 a1, .int .i64 a2, w3])).set 1 (.box [.int .i64 a0, .int .i64 a1, .int .i64 a2, w3]), a3, ?_, ownR_mk_Version ?_, ?_, ?_⟩
  · obtain ⟨cl3, ct3, rfl, hz3⟩ := purS_Value g3
    rcases hw3 with ⟨q3, rfl⟩ | ⟨q3, s3, t3, u3, rfl⟩ <;> simp -implicitDefEqProofs (disch := first | omega | (simp only [List.length_set]; omega)) only [go_sem, Nat.reduceBEq, Nat.reduceAdd, Nat.reduceSub, Nat.reduceMul, Nat.reduceLeDiff, Nat.reduceEqDiff, Nat.reduceLT, Int.reduceNeg, Int.reduceAdd, Int.reduceSub, Int.reduceMul, Int.reduceLE, Int.reduceLT, Int.reduceEq, Int.reduceToNat, reduceCtorEq, c31, f30, f31, f32, z3, List.getElem?_set_self, List.getElem?_set_ne, List.length_set, List.set_set, okN]
  · refine OwnF_frame _ c32 (fun j hj => ?_)
    have g1 := c34 j hj
    have g2 := OwnF_lt _ c32 j hj
    have g3 : 3 ≤ j := by simpa using g1
    rw [L _ _ _ j g3]
  · exact c33
  · rcases hw3 with ⟨q, rfl⟩ | ⟨q, s, t, u, rfl⟩ <;> simp [scalar]
theorem run_toVersion (d : Nat) (h : Heap) (a0 : Int) (a1 : Int) (a2 : Int) {p3 : V} {y3 : List (List U)} (g3 : PurF (.sub fdValue) p3 (.sub y3)) (b3 : LenF 1048576 1048576 (.sub fdValue) (.sub y3)) : ∃ cells h' ids, callX (runD tab noExt (d + 3)) h 0 116 [.agg [.int .i64 a0, .int .i64 a1, .int .i64 a2, p3]] = some (.agg cells, h') ∧ OwnR h' fdVersion cells [.int a0, .int a1, .int a2, .sub y3] ids ∧ ids.Nodup ∧ (∀ j ∈ ids, h.length ≤ j) ∧ (∀ j, j < h.length → h'[j]? = h[j]?) ∧ h.length ≤ h'.length := by
  obtain ⟨cs, hc, ids, r0, o0, n0, s0⟩ := run0_toVersion d a0 a1 a2 g3 b3
  exact own_callA (args := [.agg [.int .i64 a0, .int .i64 a1, .int .i64 a2, p3]]) (args' := [.agg [.int .i64 a0, .int .i64 a1, .int .i64 a2, p3]]) (by simp only [pureDAs, mapO, pureDA, pureD, deepest, Option.map_some, pureD_pur g3]) r0 o0 n0 s0
-- find48
theorem run_toVersionS (d : Nat) : ToOK (d + 4) 48 fdVersion := by
  intro p xs hp hx hb
  obtain ⟨cl, cont, rfl, hz⟩ := purS_Version hp
  have hl := Zip2_len hz
  rw [runD_eq find48 _ _ _ (by simp)]
  obtain ⟨h', r, e1, e2, e3⟩ := to_loop (run := runD tab noExt (d + 3)) (draw := drawI (runD tab noExt (d + 3))) (c := L48x0) (zero := [.int .i64 0, .int .i64 0, .int .i64 0, .sl true 3 []]) (cl := cl) (sz := 4) hz (fun h K => by
        rw [LoopK_eq]
        simp -implicitDefEqProofs only [go_sem, Nat.reduceBEq, Nat.reduceAdd, Nat.reduceSub, Nat.reduceMul, Nat.reduceLeDiff, Nat.reduceEqDiff, Nat.reduceLT, Int.reduceNeg, Int.reduceAdd, Int.reduceSub, Int.reduceMul, Int.reduceLE, Int.reduceLT, Int.reduceEq, Int.reduceToNat, reduceCtorEq, evL48x0, B48x0, Int.lt_irrefl]) (fun i cc x h C K hc hx hi hr hh hC hCl => by
        obtain ⟨a0, a1, a2, p3, y3, rfl, rfl, g3⟩ := purR_Version hr
        have hi' : i < C.length := by omega
        have hi2 : i < cont.length := by omega
        have hh' : h[0]? = some (.nest 0 4 C) := hh
        have h0 : 0 < h.length := (List.getElem?_eq_some_iff.1 hh).1
        have hs := AllU_at hb hx
        simp only [LenR, fdVersion] at hs
        obtain ⟨cs, h1, a, c1, c2, c3, c4, c5, c6⟩ := run_toVersion d h a0 a1 a2 g3 hs.2.2.2.1
        have h01 : 0 < h1.length := by omega
        have hh1 : h1[0]? = some (.nest 0 4 C) := (c5 0 h0).trans hh'
        have ha0 : 0 ∉ a := fun hm => by have := c4 0 hm; omega
        obtain ⟨b0, b1, b2, w3, z3, i3, rfl, ec, ei, o3⟩ := ownR_Version c2
        refine ⟨h1.set 0 (.nest 0 4 (C.set i _)), _, a, ?_, by rw [List.getElem?_set_self h01]; rfl, OwnR_frame _ c2 (fun j hj => by rw [List.getElem?_set_ne (by rintro rfl; exact ha0 hj)]), c3, c4, (fun j hj hlt => by rw [List.getElem?_set_ne (Ne.symm hj)]; exact c5 j hlt), by simpa using c6⟩
        rw [LoopK_eq]
        obtain ⟨cl3, cont3, rfl, hz3⟩ := purS_Value g3
        rcases own_cases o3 with ⟨k3, rfl⟩ | ⟨id3, st3, m3, k3, rfl⟩ <;> simp -implicitDefEqProofs (disch := omega) only [go_sem, Nat.reduceBEq, Nat.reduceAdd, Nat.reduceSub, Nat.reduceMul, Nat.reduceLeDiff, Nat.reduceEqDiff, Nat.reduceLT, Int.reduceNeg, Int.reduceAdd, Int.reduceSub, Int.reduceMul, Int.reduceLE, Int.reduceLT, Int.reduceEq, Int.reduceToNat, reduceCtorEq, evL48x0, B48x0, hi, hi2, hc, c1, hh1, hC, IntWalk.i64_in, okN]) (h := [.nest 0 4 (List.replicate cont.length [.int .i64 0, .int .i64 0, .int .i64 0, .sl true 3 []])]) rfl 1099511627775 (by omega)
  have k1 : ((cont.length : Int) < 4294967296) = True := eq_true (by omega)
  simp -implicitDefEqProofs (disch := omega) only [go_sem, Nat.reduceBEq, Nat.reduceAdd, Nat.reduceSub, Nat.reduceMul, Nat.reduceLeDiff, Nat.reduceEqDiff, Nat.reduceLT, Int.reduceNeg, Int.reduceAdd, Int.reduceSub, Int.reduceMul, Int.reduceLE, Int.reduceLT, Int.reduceEq, Int.reduceToNat, reduceCtorEq, small, k1]
  rw [e1]
  simp -implicitDefEqProofs only [go_sem, Nat.reduceBEq, Nat.reduceAdd, Nat.reduceSub, Nat.reduceMul, Nat.reduceLeDiff, Nat.reduceEqDiff, Nat.reduceLT, Int.reduceNeg, Int.reduceAdd, Int.reduceSub, Int.reduceMul, Int.reduceLE, Int.reduceLT, Int.reduceEq, Int.reduceToNat, reduceCtorEq]
  exact ⟨_, _, _, rfl, e2, e3⟩
-- find119
theorem run_eqVersion (d : Nat) (a0 : Int) (a1 : Int) (a2 : Int) {p3 p3q : V} {y3 : List (List U)} (g3 : PurF (.sub fdValue) p3 (.sub y3)) (q3 : PurF (.sub fdValue) p3q (.sub y3)) (b3 : LenF big big (.sub fdValue) (.sub y3)) : retP (runD tab noExt (d + 3)) 119 [.agg [.int .i64 a0, .int .i64 a1, .int .i64 a2, p3], .agg [.int .i64 a0, .int .i64 a1, .int .i64 a2, p3q]] = some [.bool true] := by
  rw [retP, runD_eq find119 _ _ _ (by simp)]
  have he3 := run_eqValueS d g3 q3 b3
  obtain ⟨cl3, ct3, rfl, hz3⟩ := purS_Value g3
  obtain ⟨cm3, cu3, rfl, hy3⟩ := purS_Value q3
  simp -implicitDefEqProofs (disch := omega) only [go_sem, Nat.reduceBEq, Nat.reduceAdd, Nat.reduceSub, Nat.reduceMul, Nat.reduceLeDiff, Nat.reduceEqDiff, Nat.reduceLT, Int.reduceNeg, Int.reduceAdd, Int.reduceSub, Int.reduceMul, Int.reduceLE, Int.reduceLT, Int.reduceEq, Int.reduceToNat, reduceCtorEq, he3]
-- find51
theorem run_eqVersionS (d : Nat) : EqOK (d + 4) 51 fdVersion := by
  intro p q xs hp hq hb
  obtain ⟨cl, cont, rfl, hz⟩ := purS_Version hp
  obtain ⟨cl', cont', rfl, hz'⟩ := purS_Version hq
  simp only [LenF, big] at hb
  have hl := Zip2_len hz
  have hl' := Zip2_len hz'
  rw [retP, runD_eq find51 _ _ _ (by simp)]
  have hlp := eq_loop (run := runD tab noExt (d + 3)) (draw := drawI (runD tab noExt (d + 3))) (c := L51x0) (n0 := 0) (cl := cl) (cl' := cl') (sz := 4) hz hz' (fun K => by
        rw [LoopS_eq, ← hl]
        simp -implicitDefEqProofs only [go_sem, Nat.reduceBEq, Nat.reduceAdd, Nat.reduceSub, Nat.reduceMul, Nat.reduceLeDiff, Nat.reduceEqDiff, Nat.reduceLT, Int.reduceNeg, Int.reduceAdd, Int.reduceSub, Int.reduceMul, Int.reduceLE, Int.reduceLT, Int.reduceEq, Int.reduceToNat, reduceCtorEq, evL51x0, B51x0, Int.lt_irrefl]) (fun i cc cc' x K hc hc' hx hi hr hr' => by
        obtain ⟨a0, a1, a2, p3, y3, rfl, rfl, g3⟩ := purR_Version hr
        obtain ⟨b0, b1, b2, p3q, y3q, rfl, e, q3⟩ := purR_Version hr'
        simp only [List.cons.injEq, U.int.injEq, U.bool.injEq, U.str.injEq, U.sub.injEq, and_true] at e
        obtain ⟨rfl, rfl, rfl, rfl⟩ := e
        have hs := AllU_at hb.2 hx
        simp only [LenR, fdVersion] at hs
        have he := run_eqVersion d a0 a1 a2 g3 q3 hs.2.2.2.1
        obtain ⟨cl3, ct3, rfl, hz3⟩ := purS_Value g3
        obtain ⟨cm3, cu3, rfl, hy3⟩ := purS_Value q3
        rw [LoopS_eq]
        simp -implicitDefEqProofs (disch := omega) only [go_sem, Nat.reduceBEq, Nat.reduceAdd, Nat.reduceSub, Nat.reduceMul, Nat.reduceLeDiff, Nat.reduceEqDiff, Nat.reduceLT, Int.reduceNeg, Int.reduceAdd, Int.reduceSub, Int.reduceMul, Int.reduceLE, Int.reduceLT, Int.reduceEq, Int.reduceToNat, reduceCtorEq, evL51x0, B51x0, evC_draw, evD51x0, E51x0, hi, hc, hc', he, IntWalk.i64_in]) 1099511627775 (by omega)
  simp -implicitDefEqProofs (disch := omega) only [go_sem, Nat.reduceBEq, Nat.reduceAdd, Nat.reduceSub, Nat.reduceMul, Nat.reduceLeDiff, Nat.reduceEqDiff, Nat.reduceLT, Int.reduceNeg, Int.reduceAdd, Int.reduceSub, Int.reduceMul, Int.reduceLE, Int.reduceLT, Int.reduceEq, Int.reduceToNat, reduceCtorEq, hl, hl']
  rw [hlp]
  simp -implicitDefEqProofs only [go_sem, Nat.reduceBEq, Nat.reduceAdd, Nat.reduceSub, Nat.reduceMul, Nat.reduceLeDiff, Nat.reduceEqDiff, Nat.reduceLT, Int.reduceNeg, Int.reduceAdd, Int.reduceSub, Int.reduceMul, Int.reduceLE, Int.reduceLT, Int.reduceEq, Int.reduceToNat, reduceCtorEq]
-- find52
theorem run_markVersionS (d : Nat) : MarkOK (d + 3) 52 fdVersion := by
  intro h v xs ids k ho hn hb h0 hk
  simp only [cntF] at hk ⊢
  simp only [LenF] at hb
  have ho' := ho
  simp only [OwnF] at ho
  obtain ⟨xs', e, ⟨cl, rfl, rfl, rfl⟩ | ⟨id, st, clip, cont, r, rfl, e2, rfl, ho⟩⟩ := ho <;> injection e with e <;> subst e
  · refine ⟨h, [], ?_, ho', by simp only [HeldF]; exact ⟨[], rfl, by simp [HeldZ, sumU]⟩, by simp [LenF, AllU], fun _ _ => rfl, rfl⟩
    simp only [callX, callK]
    rw [runD_eq find52 _ _ _ (by simp)]
    simp -implicitDefEqProofs (disch := omega) only [go_sem, Nat.reduceBEq, Nat.reduceAdd, Nat.reduceSub, Nat.reduceMul, Nat.reduceLeDiff, Nat.reduceEqDiff, Nat.reduceLT, Int.reduceNeg, Int.reduceAdd, Int.reduceSub, Int.reduceMul, Int.reduceLE, Int.reduceLT, Int.reduceEq, Int.reduceToNat, reduceCtorEq]
    rw [LoopK_eq]
    simp -implicitDefEqProofs only [go_sem, Nat.reduceBEq, Nat.reduceAdd, Nat.reduceSub, Nat.reduceMul, Nat.reduceLeDiff, Nat.reduceEqDiff, Nat.reduceLT, Int.reduceNeg, Int.reduceAdd, Int.reduceSub, Int.reduceMul, Int.reduceLE, Int.reduceLT, Int.reduceEq, Int.reduceToNat, reduceCtorEq, evL52x0, B52x0, Int.lt_irrefl, resOk, sumU, Int.add_zero]
  · have hl := Zip3_len ho
    have hlb : cont.length ≤ 1099511627775 := by have := hb.1; unfold big at this; omega
    obtain ⟨h', ys, f1, f2, f3, f4, f5, f6, f7⟩ := mark_loop (run := runD tab noExt (d + 2)) (draw := drawI (runD tab noExt (d + 2))) (c := L52x0) (fs := fdVersion) (id := id) (st := st) (n := cont.length) (clip := clip) (xs := xs) (h := h) (cont := cont) (r := r) (k := k) (fun h k K => by
        rw [LoopK_eq]
        simp -implicitDefEqProofs only [go_sem, Nat.reduceBEq, Nat.reduceAdd, Nat.reduceSub, Nat.reduceMul, Nat.reduceLeDiff, Nat.reduceEqDiff, Nat.reduceLT, Int.reduceNeg, Int.reduceAdd, Int.reduceSub, Int.reduceMul, Int.reduceLE, Int.reduceLT, Int.reduceEq, Int.reduceToNat, reduceCtorEq, evL52x0, B52x0, Int.lt_irrefl]) (fun i h C cc x a k K hi hh hCl hC hr hx hid hnd h0 hk => by
        obtain ⟨a0, a1, a2, p3, y3, i3, rfl, rfl, rfl, g3⟩ := ownR_Version hr
        have hcnt : cntR fdVersion [.int a0, .int a1, .int a2, .sub y3] = 1 + 1 + 1 + cntF (.sub fdValue) (.sub y3) := by simp only [fdVersion, cntR, cntF_int, cntF_bool, cntF_str] <;> omega
        have hct3 : 0 ≤ cntF (.sub fdValue) (.sub y3) := Nat.zero_le _
        rw [hcnt] at hk ⊢
        generalize hcn3 : cntF (.sub fdValue) (.sub y3) = N3 at hk hct3 hcnt ⊢
        have hh' : h[id]? = some (.nest st 4 C) := hh
        have hidl : id < h.length := (List.getElem?_eq_some_iff.1 hh').1
        have hi' : i < C.length := by omega
        have hi2 : i < cont.length := by omega
        have hs := hx
        simp only [LenR, fdVersion] at hs
        obtain ⟨ha3, z3, m31, m32, m33, m34, m35, m36⟩ := run_markValueS d (h := (h.set id (.nest st 4 (C.set i [.int .i64 k, .int .i64 (k + 1), .int .i64 (k + 2), p3])))) (k := (k + 3)) (OwnF_frame _ g3 (fun j hj => by rw [List.getElem?_set_ne (by rintro rfl; exact hid hj)])) hnd hs.2.2.2.1 (by omega) (by rw [hcn3]; omega)
        rw [hcn3] at m31 m33
        have hr3 : ha3[id]? = some (.nest st 4 (C.set i [.int .i64 k, .int .i64 (k + 1), .int .i64 (k + 2), p3])) := (m35 id hid).trans (by rw [List.getElem?_set_self hidl])
        have hl3 : id < ha3.length := (List.getElem?_eq_some_iff.1 hr3).1
        refine ⟨ha3, [.int .i64 k, .int .i64 (k + 1), .int .i64 (k + 2), p3], [.int k, .int (k + 1), .int (k + 2), .sub z3], ?_, by rw [hr3]; first | rfl | (rw [set_same hC]; rfl), ownR_mk_Version (OwnF_frame _ m32 (fun j hj => rfl)), ?_, ⟨trivial, trivial, trivial, m34, trivial⟩, (fun j hj hj2 => by rw [m35 j hj2, List.getElem?_set_ne (Ne.symm hj)]), by simp only [List.length_set, m36]⟩
        · rw [LoopK_eq]
          simp -implicitDefEqProofs (disch := omega) only [go_sem, Nat.reduceBEq, Nat.reduceAdd, Nat.reduceSub, Nat.reduceMul, Nat.reduceLeDiff, Nat.reduceEqDiff, Nat.reduceLT, Int.reduceNeg, Int.reduceAdd, Int.reduceSub, Int.reduceMul, Int.reduceLE, Int.reduceLT, Int.reduceEq, Int.reduceToNat, reduceCtorEq, evL52x0, B52x0, hi, hi2, hh', hC, m31, hr3, hl3, IntWalk.i64_in, IntWalk.u8_in, refs, refC, frzs, List.contains_nil, List.getElem?_set_self, List.length_set, List.set_set, Int.add_assoc, Int.natCast_add, Int.natCast_one, Int.cast_ofNat_Int, pures, okN, hidl, hi']
        · have hq := heldR_mk_Version k z3 _ m33 h0 (by omega)
          first | exact hq | (refine cast ?_ hq; simp only [Int.add_assoc, Int.natCast_add, Int.natCast_one, Int.cast_ofNat_Int, Int.reduceAdd]) | (simpa only [Int.add_assoc, Int.natCast_add, Int.natCast_one, Int.cast_ofNat_Int, Int.reduceAdd] using hq)
        ) rfl e2 ho hn hb.2 h0 hk 1099511627775 (by omega)
    refine ⟨h', ys, ?_, f2, by simp only [HeldF]; exact ⟨ys, rfl, f3⟩, by simp only [LenF]; exact ⟨by omega, f5⟩, f6, f7⟩
    simp only [callX, callK]
    rw [runD_eq find52 _ _ _ (by simp)]
    simp -implicitDefEqProofs (disch := omega) only [go_sem, Nat.reduceBEq, Nat.reduceAdd, Nat.reduceSub, Nat.reduceMul, Nat.reduceLeDiff, Nat.reduceEqDiff, Nat.reduceLT, Int.reduceNeg, Int.reduceAdd, Int.reduceSub, Int.reduceMul, Int.reduceLE, Int.reduceLT, Int.reduceEq, Int.reduceToNat, reduceCtorEq]
    rw [f1]
    simp -implicitDefEqProofs only [go_sem, Nat.reduceBEq, Nat.reduceAdd, Nat.reduceSub, Nat.reduceMul, Nat.reduceLeDiff, Nat.reduceEqDiff, Nat.reduceLT, Int.reduceNeg, Int.reduceAdd, Int.reduceSub, Int.reduceMul, Int.reduceLE, Int.reduceLT, Int.reduceEq, Int.reduceToNat, reduceCtorEq, resOk]
/-! ### Table -/
def fdTable : List Fd := [.sub fdColumn, .sub fdValueS]
theorem purR_Table {c : List V} {x : List U} (h : PurR fdTable c x) : ∃ (p0 : V) (y0 : List (List U)) (p1 : V) (y1 : List (List U)), c = [p0, p1] ∧ x = [.sub y0, .sub y1] ∧ PurF (.sub fdColumn) p0 (.sub y0) ∧ PurF (.sub fdValueS) p1 (.sub y1) := by
  simp only [fdTable, PurR] at h
  obtain ⟨v0, _, u0, _, rfl, rfl, g0, v1, _, u1, _, rfl, rfl, g1, rfl, rfl⟩ := h
  have g0' := g0
  simp only [PurF] at g0'
  obtain ⟨_, _, y0, _, rfl, _⟩ := g0'
  have g1' := g1
  simp only [PurF] at g1'
  obtain ⟨_, _, y1, _, rfl, _⟩ := g1'
  exact ⟨v0, y0, v1, y1, rfl, rfl, g0, g1⟩
theorem purR_mk_Table {p0 : V} {y0 : List (List U)} {p1 : V} {y1 : List (List U)} (g0 : PurF (.sub fdColumn) p0 (.sub y0)) (g1 : PurF (.sub fdValueS) p1 (.sub y1)) : PurR fdTable [p0, p1] [.sub y0, .sub y1] := by
  simp only [fdTable, PurR]
  exact ⟨_, _, _, _, rfl, rfl, g0, _, _, _, _, rfl, rfl, g1, rfl, rfl⟩
theorem purS_Table {p : V} {xs : List (List U)} (hp : PurF (.sub fdTable) p (.sub xs)) : ∃ cl cont, p = .sl cl 2 cont ∧ Zip2 (PurR fdTable) cont xs := by
  simp only [PurF] at hp
  obtain ⟨cl, cont, xs', rfl, e, hz⟩ := hp
  injection e with e
  subst e
  exact ⟨cl, cont, rfl, hz⟩
theorem ownR_Table {h : Heap} {c : List V} {x : List U} {i : List Nat} (ho : OwnR h fdTable c x i) : ∃ (p0 : V) (y0 : List (List U)) (p1 : V) (y1 : List (List U)) (i0 : List Nat) (i1 : List Nat), c = [p0, p1] ∧ x = [.sub y0, .sub y1] ∧ i = i0 ++ i1 ∧ OwnF h (.sub fdColumn) p0 (.sub y0) i0 ∧ OwnF h (.sub fdValueS) p1 (.sub y1) i1 := by
  simp only [fdTable, OwnR] at ho
  obtain ⟨v0, _, u0, _, i0, _, rfl, rfl, rfl, g0, v1, _, u1, _, i1, _, rfl, rfl, rfl, g1, rfl, rfl, rfl⟩ := ho
  have g0' := g0
  simp only [OwnF] at g0'
  obtain ⟨y0, rfl, _⟩ := g0'
  have g1' := g1
  simp only [OwnF] at g1'
  obtain ⟨y1, rfl, _⟩ := g1'
  exact ⟨v0, y0, v1, y1, i0, i1, rfl, rfl, by simp, g0, g1⟩
theorem ownR_mk_Table {h : Heap} {p0 : V} {y0 : List (List U)} {p1 : V} {y1 : List (List U)} {i0 : List Nat} {i1 : List Nat} (g0 : OwnF h (.sub fdColumn) p0 (.sub y0) i0) (g1 : OwnF h (.sub fdValueS) p1 (.sub y1) i1) : OwnR h fdTable [p0, p1] [.sub y0, .sub y1] (i0 ++ i1) := by
  simp only [fdTable, OwnR]
  exact ⟨_, _, _, _, i0, i1, rfl, rfl, (by simp), g0, _, _, _, _, i1, [], rfl, rfl, (by simp), g1, rfl, rfl, rfl⟩
theorem heldR_Table {x : List U} {k k' : Int} (h : HeldR fdTable x k k') (h0 : 0 ≤ k) (h1 : k' ≤ 4611686018427387904) : ∃ (y0 : List (List U)) (m0 : Int) (y1 : List (List U)) (m1 : Int), x = [.sub y0, .sub y1] ∧ HeldF (.sub fdColumn) (.sub y0) k m0 ∧ HeldF (.sub fdValueS) (.sub y1) m0 m1 ∧ k' = m1 := by
  simp only [fdTable, HeldR] at h
  obtain ⟨u0, _, m0, rfl, g0, u1, _, m1, rfl, g1, rfl, ek⟩ := h
  have l0 := HeldF_le _ g0
  have g0' := g0
  simp only [HeldF] at g0'
  obtain ⟨y0, rfl, _⟩ := g0'
  have l1 := HeldF_le _ g1
  have g1' := g1
  simp only [HeldF] at g1'
  obtain ⟨y1, rfl, _⟩ := g1'
  exact ⟨y0, m0, y1, m1, by simp (disch := omega) only [IntWalk.i64_in, Int.add_assoc, Int.reduceAdd], by simpa only [Int.add_assoc, Int.reduceAdd] using g0, by simpa only [Int.add_assoc, Int.reduceAdd] using g1, by simp only [ek, Int.add_assoc, Int.reduceAdd]⟩
theorem heldR_mk_Table (k : Int) (y0 : List (List U)) (m0 : Int) (y1 : List (List U)) (m1 : Int) (g0 : HeldF (.sub fdColumn) (.sub y0) k m0) (g1 : HeldF (.sub fdValueS) (.sub y1) m0 m1) (h0 : 0 ≤ k) (h1 : m1 ≤ 4611686018427387904) : HeldR fdTable [.sub y0, .sub y1] k (m1) := by
  have l0 := HeldF_le _ g0
  have l1 := HeldF_le _ g1
  simp only [fdTable, HeldR]
  exact ⟨_, _, m0, rfl, g0, _, _, m1, rfl, g1, rfl, by first | rfl | simp only [Int.add_assoc, Int.reduceAdd]⟩
-- find66
theorem run_eqTable (d : Nat)  {p0 p0q : V} {y0 : List (List U)} (g0 : PurF (.sub fdColumn) p0 (.sub y0)) (q0 : PurF (.sub fdColumn) p0q (.sub y0)) (b0 : LenF big big (.sub fdColumn) (.sub y0)) {p1 p1q : V} {y1 : List (List U)} (g1 : PurF (.sub fdValueS) p1 (.sub y1)) (q1 : PurF (.sub fdValueS) p1q (.sub y1)) (b1 : LenF big big (.sub fdValueS) (.sub y1)) : retP (runD tab noExt (d + 4)) 66 [.agg [p0, p1], .agg [p0q, p1q]] = some [.bool true] := by
  rw [retP, runD_eq find66 _ _ _ (by simp)]
  have he0 := run_eqColumnS (d + 1) g0 q0 b0
  have he1 := run_eqValueSS d g1 q1 b1
  obtain ⟨cl0, ct0, rfl, hz0⟩ := purS_Column g0
  obtain ⟨cm0, cu0, rfl, hy0⟩ := purS_Column q0
  obtain ⟨cl1, ct1, rfl, hz1⟩ := purS_ValueS g1
  obtain ⟨cm1, cu1, rfl, hy1⟩ := purS_ValueS q1
  simp -implicitDefEqProofs (disch := omega) only [go_sem, Nat.reduceBEq, Nat.reduceAdd, Nat.reduceSub, Nat.reduceMul, Nat.reduceLeDiff, Nat.reduceEqDiff, Nat.reduceLT, Int.reduceNeg, Int.reduceAdd, Int.reduceSub, Int.reduceMul, Int.reduceLE, Int.reduceLT, Int.reduceEq, Int.reduceToNat, reduceCtorEq, he0, he1]
-- find68
theorem run_markTable (d : Nat) {h : Heap} {k : Int}  {p0 : V} {y0 : List (List U)} {i0 : List Nat} {p1 : V} {y1 : List (List U)} {i1 : List Nat} (g0 : OwnF h (.sub fdColumn) p0 (.sub y0) i0) (g1 : OwnF h (.sub fdValueS) p1 (.sub y1) i1) (nd : (i0 ++ i1).Nodup) (b0 : LenF big big (.sub fdColumn) (.sub y0)) (b1 : LenF big big (.sub fdValueS) (.sub y1)) (h0 : 0 ≤ k) (hk : k + cntF (.sub fdColumn) (.sub y0) + cntF (.sub fdValueS) (.sub y1) ≤ 4611686018427387904) : ∃ h' z0 z1, callX (runD tab noExt (d + 4)) h 2 68 [.agg [p0, p1], .int .i64 k] = some (.int .i64 (k + cntF (.sub fdColumn) (.sub y0) + cntF (.sub fdValueS) (.sub y1)), h') ∧ OwnF h' (.sub fdColumn) p0 (.sub z0) i0 ∧ OwnF h' (.sub fdValueS) p1 (.sub z1) i1 ∧ HeldF (.sub fdColumn) (.sub z0) (k) (k + cntF (.sub fdColumn) (.sub y0)) ∧ HeldF (.sub fdValueS) (.sub z1) (k + cntF (.sub fdColumn) (.sub y0)) (k + cntF (.sub fdColumn) (.sub y0) + cntF (.sub fdValueS) (.sub y1)) ∧ LenF big big (.sub fdColumn) (.sub z0) ∧ LenF big big (.sub fdValueS) (.sub z1) ∧ (∀ j, j < h.length → j ∉ i0 → j ∉ i1 → h'[j]? = h[j]?) ∧ h.length ≤ h'.length := by
  have B0 : (h ++ [Blk.box [p0, p1]])[h.length]? = some (Blk.box [p0, p1]) := by simp
  obtain ⟨nd0, nd1, ndx⟩ := List.nodup_append.1 nd
  have s0 : OwnF (h ++ [Blk.box [p0, p1]]) (.sub fdColumn) p0 (.sub y0) i0 := OwnF_frame _ g0 (fun j hj => by rw [List.getElem?_append_left (OwnF_lt _ g0 j hj)])
  obtain ⟨h0, z0, e0, a0, k0, c0, f0, l0⟩ := run_markColumnS (d + 2) (h := (h ++ [Blk.box [p0, p1]])) (k := k) s0 nd0 b0 (by omega) (by omega)
  have B1 : h0[h.length]? = some (Blk.box [p0, p1]) := (f0 _ (fun hm => by have := OwnF_lt _ g0 _ hm; omega)).trans B0
  have s1 : OwnF h0 (.sub fdValueS) p1 (.sub y1) i1 := OwnF_frame _ g1 (fun j hj => by rw [f0 j (fun hm => ndx j hm j hj rfl), List.getElem?_append_left (OwnF_lt _ g1 j hj)])
  obtain ⟨h1, z1, e1, a1, k1, c1, f1, l1⟩ := run_markValueSS d (h := h0) (k := k + cntF (.sub fdColumn) (.sub y0)) s1 nd1 b1 (by omega) (by omega)
  have B2 : h1[h.length]? = some (Blk.box [p0, p1]) := (f1 _ (fun hm => by have := OwnF_lt _ g1 _ hm; omega)).trans B1
  refine ⟨h1, z0, z1, ?_, (OwnF_frame _ a0 (fun j hj => by rw [f1 j (fun hm => ndx j hj j hm rfl)])), a1, k0, k1, c0, c1, fun j hj x0 x1 => by rw [f1 j x1, f0 j x0, List.getElem?_append_left hj], by rw [l1, l0]; simp⟩
  simp only [callX, callK]
  rw [runD_eq find68 _ _ _ (by simp)]
  rcases own_cases g0 with ⟨q0, rfl⟩ | ⟨q0, u0, t0, w0, rfl⟩ <;> rcases own_cases g1 with ⟨q1, rfl⟩ | ⟨q1, u1, t1, w1, rfl⟩ <;> simp -implicitDefEqProofs (disch := omega) only [go_sem, Nat.reduceBEq, Nat.reduceAdd, Nat.reduceSub, Nat.reduceMul, Nat.reduceLeDiff, Nat.reduceEqDiff, Nat.reduceLT, Int.reduceNeg, Int.reduceAdd, Int.reduceSub, Int.reduceMul, Int.reduceLE, Int.reduceLT, Int.reduceEq, Int.reduceToNat, reduceCtorEq, resOk, B0, B1, B2, e0, e1]
-- find69
theorem run_heldTable (d : Nat)  {p0 : V} {y0 : List (List U)} {p1 : V} {y1 : List (List U)} {k0x k1x k2x : Int} (g0 : PurF (.sub fdColumn) p0 (.sub y0)) (g1 : PurF (.sub fdValueS) p1 (.sub y1)) (r0 : HeldF (.sub fdColumn) (.sub y0) k0x k1x) (r1 : HeldF (.sub fdValueS) (.sub y1) k1x k2x) (b0 : LenF big big (.sub fdColumn) (.sub y0)) (b1 : LenF big big (.sub fdValueS) (.sub y1)) (h0 : 0 ≤ k0x) (h1 : k2x ≤ 4611686018427387904) : retP (runD tab noExt (d + 4)) 69 [.agg [p0, p1], .int .i64 k0x] = some [.int .i64 k2x] := by
  have l0 := HeldF_le _ r0
  have l1 := HeldF_le _ r1
  have e0 := run_heldColumnS (d + 2) g0 r0 (by omega) (by omega) b0
  have x0 : (k1x < 0) = False := eq_false (by omega)
  have e1 := run_heldValueSS d g1 r1 (by omega) (by omega) b1
  have x1 : (k2x < 0) = False := eq_false (by omega)
  obtain ⟨cl0, ct0, rfl, hz0⟩ := purS_Column g0
  obtain ⟨cl1, ct1, rfl, hz1⟩ := purS_ValueS g1
  rw [retP, runD_eq find69 _ _ _ (by simp)]
  simp -implicitDefEqProofs (disch := omega) only [go_sem, Nat.reduceBEq, Nat.reduceAdd, Nat.reduceSub, Nat.reduceMul, Nat.reduceLeDiff, Nat.reduceEqDiff, Nat.reduceLT, Int.reduceNeg, Int.reduceAdd, Int.reduceSub, Int.reduceMul, Int.reduceLE, Int.reduceLT, Int.reduceEq, Int.reduceToNat, reduceCtorEq, e0, x0, e1, x1]
end Go.Proofs.Ytnnjpiepoeknnaa.PE
/- Steps of an exact statement. -/
set_option linter.unusedVariables false
set_option linter.unusedSimpArgs false
namespace Go.Proofs.Ytnnjpiepoeknnaa.PE
open Go.RowKit

theorem pureDA_own {h : Heap} {fs : List Fd} {v : V} {u : U} {ids : List Nat} (ho : OwnF h (.sub fs) v u ids) (hd : dep (.sub fs) ≤ 6) : ∃ q, pureDA h v = some q ∧ PurF (.sub fs) q u := by
  obtain ⟨q, e, g⟩ := OwnF_pure (.sub fs) 6 hd ho
  refine ⟨q, ?_, g⟩
  rcases own_cases ho with ⟨c, rfl⟩ | ⟨id, st, n, clip, rfl⟩ <;> exact e
theorem pureDA_int (h : Heap) (k : IntKind) (n : Int) : pureDA h (.int k n) = some (.int k n) := rfl
theorem pureDA_bool (h : Heap) (b : Bool) : pureDA h (.bool b) = some (.bool b) := rfl
theorem pureDA_str (h : Heap) (b : ByteArray) : pureDA h (.str b) = some (.str b) := rfl
theorem retP_some {run : Run} {f : Nat} {args rs : List V} (h : retP run f args = some rs) : ∃ r hc, run f args [] = some (r, hc) ∧ pureRs hc r = some rs := by
  unfold retP PureR at h
  rcases hr : run f args [] with _ | ⟨r, hc⟩
  · rw [hr] at h; cases h
  · rw [hr] at h; exact ⟨r, hc, rfl, h⟩
theorem call_spec {run : Run} {h : Heap} {f : Nat} {args args' rs : List V} (hp : pureDAs h args = some args') (hr : retP run f args' = some rs) : ∃ h', callX run h 1 f args = some (oneOf rs, h') := by
  obtain ⟨r, hc, e1, e2⟩ := retP_some hr
  exact ⟨List.replicate h.length .dead, by simp only [callX, callD, hp, e1, e2]⟩
theorem pureD_bool {h : Heap} {n : Nat} {v : V} {b : Bool} (hp : pureD h n v = some (.bool b)) : v = .bool b := by
  cases v with
  | bool c => cases n <;> simp [pureD] at hp <;> rw [hp]
  | ref id st off len clip =>
    cases n with
    | zero => simp [pureD] at hp
    | succ n =>
      simp only [pureD] at hp
      split at hp
      · split at hp <;> cases hp
      · split at hp <;> cases hp
      · split at hp
        · obtain ⟨_, _, e⟩ := Option.map_eq_some_iff.1 hp; cases e
        · cases hp
      · cases hp
  | _ => cases n <;> simp [pureD] at hp
theorem pureD_int {h : Heap} {n : Nat} {v : V} {k : IntKind} {b : Int} (hp : pureD h n v = some (.int k b)) : v = .int k b := by
  cases v with
  | int c m => cases n <;> simp [pureD] at hp <;> obtain ⟨rfl, rfl⟩ := hp <;> rfl
  | ref id st off len clip =>
    cases n with
    | zero => simp [pureD] at hp
    | succ n =>
      simp only [pureD] at hp
      split at hp
      · split at hp <;> cases hp
      · split at hp <;> cases hp
      · split at hp
        · obtain ⟨_, _, e⟩ := Option.map_eq_some_iff.1 hp; cases e
        · cases hp
      · cases hp
  | _ => cases n <;> simp [pureD] at hp
theorem pureC_D {h : Heap} {v x : V} (hv : pureC h v = some x) : pureD h 1 v = some x := by
  cases v with
  | ref id st off len clip =>
    simp only [pureC] at hv
    simp only [pureD]
    split at hv
    · rename_i hb; rw [hb]; exact hv
    · rename_i hb; rw [hb]; exact hv
    · cases hv
  | _ => first | exact hv | (simp [pureC] at hv)
theorem pureA_C {h : Heap} {v x : V} (hv : pureA h v = some x) (hx : ∀ cs, x ≠ .agg cs) : pureC h v = some x := by
  unfold pureA at hv
  split at hv
  · obtain ⟨cs, _, e⟩ := Option.map_eq_some_iff.1 hv; exact absurd e.symm (hx cs)
  · exact hv
theorem pureRs_scal {h : Heap} {r : List V} {x : V} (hx : (∃ b, x = .bool b) ∨ ∃ k n, x = .int k n) (hp : pureRs h r = some [x]) : r = [x] := by
  have key : ∀ v, pureA h v = some x → v = x := by
    intro v hv
    have := pureC_D (pureA_C hv (by rintro cs rfl; rcases hx with ⟨b, e⟩ | ⟨k, n, e⟩ <;> cases e))
    rcases hx with ⟨b, rfl⟩ | ⟨k, n, rfl⟩
    · exact pureD_bool this
    · exact pureD_int this
  have key2 : ∀ v, pureDA h v = some x → v = x := by
    intro v hv
    unfold pureDA at hv
    split at hv
    · obtain ⟨_, _, e⟩ := Option.map_eq_some_iff.1 hv
      rcases hx with ⟨b, rfl⟩ | ⟨k, n, rfl⟩ <;> cases e
    · rcases hx with ⟨b, rfl⟩ | ⟨k, n, rfl⟩
      · exact pureD_bool hv
      · exact pureD_int hv
  unfold pureRs OrD at hp
  split at hp
  · rename_i r' hr
    injection hp with hp
    subst hp
    obtain ⟨a1, a2⟩ := pureAs_spec hr
    obtain ⟨v, hv, e⟩ := a2 0 x rfl
    match r, a1, hv with
    | [v'], _, hv => simp at hv; subst hv; rw [key _ e]
  · obtain ⟨a1, a2⟩ := pureDAs_spec hp
    obtain ⟨v, hv, e⟩ := a2 0 x rfl
    match r, a1, hv with
    | [v'], _, hv => simp at hv; subst hv; rw [key2 _ e]
theorem call_bool {run : Run} {h : Heap} {f : Nat} {args args' : List V} {b : Bool} (hp : pureDAs h args = some args') (hr : retP run f args' = some [.bool b]) : callX run h 0 f args = some (.bool b, h) := by
  obtain ⟨r, hc, e1, e2⟩ := retP_some hr
  have := pureRs_scal (.inl ⟨b, rfl⟩) e2
  subst this
  simp only [callX, callO, hp, e1]
  rfl
theorem call_int {run : Run} {h : Heap} {f : Nat} {args args' : List V} {k : IntKind} {b : Int} (hp : pureDAs h args = some args') (hr : retP run f args' = some [.int k b]) : callX run h 0 f args = some (.int k b, h) := by
  obtain ⟨r, hc, e1, e2⟩ := retP_some hr
  have := pureRs_scal (.inr ⟨k, b, rfl⟩) e2
  subst this
  simp only [callX, callO, hp, e1]
  rfl
theorem pureD_str {h : Heap} {n : Nat} {v : V} {b : ByteArray} (hp : pureD h n v = some (.str b)) : v = .str b := by
  cases v with
  | str c => cases n <;> simp [pureD] at hp <;> rw [hp]
  | ref id st off len clip =>
    cases n with
    | zero => simp [pureD] at hp
    | succ n =>
      simp only [pureD] at hp
      split at hp
      · split at hp <;> cases hp
      · split at hp <;> cases hp
      · split at hp
        · obtain ⟨_, _, e⟩ := Option.map_eq_some_iff.1 hp; cases e
        · cases hp
      · cases hp
  | _ => cases n <;> simp [pureD] at hp
theorem pureD_agg {h : Heap} {n : Nat} {v : V} {b : List V} (hp : pureD h n v = some (.agg b)) : False := by
  cases v with
  | ref id st off len clip =>
    cases n with
    | zero => simp [pureD] at hp
    | succ n =>
      simp only [pureD] at hp
      split at hp
      · split at hp <;> cases hp
      · split at hp <;> cases hp
      · split at hp
        · obtain ⟨_, _, e⟩ := Option.map_eq_some_iff.1 hp; cases e
        · cases hp
      · cases hp
  | _ => cases n <;> simp [pureD] at hp
theorem pureD_scal {h : Heap} {n : Nat} {v x : V} (hx : scalar x = true) (hp : pureD h n v = some x) : v = x := by
  cases x with
  | int k b => exact pureD_int hp
  | bool b => exact pureD_bool hp
  | str b => exact pureD_str hp
  | _ => cases hx
theorem mapO_scal {h : Heap} {n : Nat} : ∀ {vs cs : List V}, mapO (pureD h n) vs = some cs → cs.all scalar = true → vs = cs
  | [], cs, e, _ => by simp only [mapO, Option.some.injEq] at e; exact e
  | v :: vs, cs, e, ha => by
    simp only [mapO] at e
    split at e
    · rename_i a b h1 h2
      injection e with e
      subst e
      simp only [List.all_cons, Bool.and_eq_true] at ha
      rw [pureD_scal ha.1 h1, mapO_scal h2 ha.2]
    · cases e
theorem pures_scal {h : Heap} : ∀ {vs cs : List V}, pures h vs = some cs → cs.all scalar = true → vs = cs
  | [], cs, e, _ => by simp only [pures, Option.some.injEq] at e; exact e
  | v :: vs, cs, e, ha => by
    simp only [pures] at e
    split at e
    · rename_i a b h1 h2
      injection e with e
      subst e
      simp only [List.all_cons, Bool.and_eq_true] at ha
      rw [pureD_scal ha.1 (pureC_D h1), pures_scal h2 ha.2]
    · cases e
theorem pureRs_agg {h : Heap} {r : List V} {cs : List V} (hc : cs.all scalar = true) (hp : pureRs h r = some [.agg cs]) : r = [.agg cs] := by
  have key : ∀ v, pureA h v = some (.agg cs) → v = .agg cs := by
    intro v hv
    unfold pureA at hv
    split at hv
    · obtain ⟨a, ha, e⟩ := Option.map_eq_some_iff.1 hv
      injection e with e
      subst e
      rw [pures_scal ha hc]
    · exact (pureD_agg (pureC_D hv)).elim
  have key2 : ∀ v, pureDA h v = some (.agg cs) → v = .agg cs := by
    intro v hv
    unfold pureDA at hv
    split at hv
    · obtain ⟨a, ha, e⟩ := Option.map_eq_some_iff.1 hv
      injection e with e
      subst e
      rw [mapO_scal ha hc]
    · exact (pureD_agg hv).elim
  unfold pureRs OrD at hp
  split at hp
  · rename_i r' hr
    injection hp with hp
    subst hp
    obtain ⟨a1, a2⟩ := pureAs_spec hr
    obtain ⟨v, hv, e⟩ := a2 0 (.agg cs) rfl
    match r, a1, hv with
    | [v'], _, hv => simp at hv; subst hv; rw [key _ e]
  · obtain ⟨a1, a2⟩ := pureDAs_spec hp
    obtain ⟨v, hv, e⟩ := a2 0 (.agg cs) rfl
    match r, a1, hv with
    | [v'], _, hv => simp at hv; subst hv; rw [key2 _ e]
theorem call_agg {run : Run} {h : Heap} {f : Nat} {args args' : List V} {cs : List V} (hc : cs.all scalar = true) (hp : pureDAs h args = some args') (hr : retP run f args' = some [.agg cs]) : callX run h 0 f args = some (.agg cs, h) := by
  obtain ⟨r, hc', e1, e2⟩ := retP_some hr
  have := pureRs_agg hc e2
  subst this
  have ha : [V.agg cs].all scalarA = true := by simp only [List.all_cons, List.all_nil, scalarA, hc, Bool.and_true]
  simp only [callX, callO, hp, e1, BackO, ha, if_true, oneOf]
theorem own_ids {h h' : Heap} {fs : List Fd} {v : V} {u : U} {ids : List Nat} (ho : OwnF h' (.sub fs) v u ids) (hl : ∀ j ∈ ids, h.length ≤ j) : ∀ j ∈ ids, h.length ≤ j ∧ j < h'.length := fun j hj => ⟨hl j hj, OwnF_lt _ ho j hj⟩
end Go.Proofs.Ytnnjpiepoeknnaa.PE
/- Contents of trees as columns, values, rows, numbers. -/
set_option linter.unusedVariables false
set_option linter.unusedSimpArgs false
namespace Go.Proofs.Ytnnjpiepoeknnaa.PE
open Go.RowKit

def colU (c : Col) : List U := [.int c.kind, .bool c.empty]
def valU (v : Val) : List U := [.int v.kind, .int v.n, .str v.s]
def vsU (vs : List Val) : List U := [.sub (vs.map valU)]
theorem typ_of {α : Type} {R : List V → List U → Prop} {f : α → List V} {g : α → List U} (h : ∀ c x, R c x → ∃ a, c = f a ∧ x = g a) : ∀ {l1 : List (List V)} {l2 : List (List U)}, Zip2 R l1 l2 → ∃ ls : List α, l1 = ls.map f ∧ l2 = ls.map g
  | [], [], _ => ⟨[], rfl, rfl⟩
  | c :: l1, x :: l2, ⟨h1, h2⟩ => by
    obtain ⟨a, rfl, rfl⟩ := h c x h1
    obtain ⟨ls, rfl, rfl⟩ := typ_of h h2
    exact ⟨a :: ls, rfl, rfl⟩
  | [], _ :: _, h => h.elim
  | _ :: _, [], h => h.elim
theorem zip_map {α : Type} {R : List V → List U → Prop} {f : α → List V} {g : α → List U} (h : ∀ a, R (f a) (g a)) : ∀ (ls : List α), Zip2 R (ls.map f) (ls.map g)
  | [] => trivial
  | a :: ls => ⟨h a, zip_map h ls⟩
theorem pur_map {α : Type} {fs : List Fd} {f : α → List V} {g : α → List U} (h : ∀ a, PurR fs (f a) (g a)) (c : Bool) (n : Nat) (hn : n = fs.length) (ls : List α) : PurF (.sub fs) (.sl c n (ls.map f)) (.sub (ls.map g)) := by
  subst hn
  simp only [PurF]
  exact ⟨c, _, _, rfl, rfl, zip_map h ls⟩
theorem sum_le {c : List U → Nat} {n : Nat} (h : ∀ x, c x ≤ n) : ∀ (xs : List (List U)), sumU c xs ≤ n * xs.length
  | [] => by simp [sumU]
  | x :: xs => by
    have := sum_le h xs
    have := h x
    simp only [sumU, List.length_cons, Nat.mul_add, Nat.mul_one]
    omega
theorem sum_one {f : Fd} (hf : ∀ u, cntF f u = 1) (xs : List (List U)) : sumU (cntR [f]) xs ≤ xs.length := by
  have := sum_le (c := cntR [f]) (n := 1) (fun x => by cases x <;> simp [cntR, hf]) xs
  omega
theorem all_flat {n m : Nat} {fs : List Fd} (hf : ∀ f ∈ fs, f = .bool ∨ ∃ k, f = .int k) : ∀ (xs : List (List U)), AllU (LenR n m fs) xs
  | [] => trivial
  | x :: xs => ⟨by
    have key : ∀ (fs : List Fd), (∀ f ∈ fs, f = .bool ∨ ∃ k, f = .int k) → ∀ x, LenR n m fs x := by
      intro fs
      induction fs with
      | nil => intro _ x; simp [LenR]
      | cons f fs ih =>
        intro hf x
        cases x with
        | nil => simp [LenR]
        | cons u x =>
          simp only [LenR]
          refine ⟨?_, ih (fun g hg => hf g (List.mem_cons_of_mem _ hg)) x⟩
          rcases hf f List.mem_cons_self with rfl | ⟨k, rfl⟩ <;> simp [LenF]
    exact key fs hf x, all_flat hf xs⟩

theorem colsU_of {l1 : List (List V)} {l2 : List (List U)} (h : Zip2 (PurR fdColumn) l1 l2) : ∃ cs : List Col, l1 = cs.map Col.cells ∧ l2 = cs.map colU :=
  typ_of (fun c x hr => by obtain ⟨a, b, rfl, rfl⟩ := purR_Column hr; exact ⟨⟨a, b⟩, rfl, rfl⟩) h
theorem valsU_of {l1 : List (List V)} {l2 : List (List U)} (h : Zip2 (PurR fdValue) l1 l2) : ∃ vs : List Val, l1 = vs.map Val.cells ∧ l2 = vs.map valU :=
  typ_of (fun c x hr => by obtain ⟨a, b, s, rfl, rfl⟩ := purR_Value hr; exact ⟨⟨a, b, s⟩, rfl, rfl⟩) h
theorem rowsU_of {l1 : List (List V)} {l2 : List (List U)} (h : Zip2 (PurR fdValueS) l1 l2) : ∃ rs : List Row, l1 = rs.map Row.cells ∧ l2 = rs.map (fun r => vsU r.vs) :=
  typ_of (fun c x hr => by
    obtain ⟨p, y, rfl, rfl, g⟩ := purR_ValueS hr
    obtain ⟨cl, ct, rfl, hz⟩ := purS_Value g
    obtain ⟨vs, rfl, rfl⟩ := valsU_of hz
    exact ⟨⟨cl, vs⟩, rfl, rfl⟩) h
theorem colU_inj {a b : Col} (h : colU a = colU b) : a = b := by
  cases a; cases b
  simp only [colU, List.cons.injEq, U.int.injEq, U.bool.injEq, and_true] at h
  obtain ⟨rfl, rfl⟩ := h
  rfl
theorem valU_inj {a b : Val} (h : valU a = valU b) : a = b := by
  cases a; cases b
  simp only [valU, List.cons.injEq, U.int.injEq, U.str.injEq, and_true] at h
  obtain ⟨rfl, rfl, rfl⟩ := h
  rfl
theorem map_inj {α β : Type} {g : α → β} (hg : ∀ a b, g a = g b → a = b) {l1 l2 : List α} (h : l1.map g = l2.map g) : l1 = l2 := (List.map_inj_right hg).1 h
theorem vsU_inj {a b : List Val} (h : vsU a = vsU b) : a = b := by
  simp only [vsU, List.cons.injEq, U.sub.injEq, and_true] at h
  exact map_inj (fun _ _ => valU_inj) h
theorem col_pur (c : Col) : PurR fdColumn c.cells (colU c) := purR_mk_Column c.kind c.empty
theorem val_pur (v : Val) : PurR fdValue v.cells (valU v) := purR_mk_Value v.kind v.n v.s
theorem row_pur (r : Row) : PurR fdValueS r.cells (vsU r.vs) := purR_mk_ValueS (pur_map val_pur _ 3 rfl _)
/-- Values of one's own. -/
theorem own_flat {α : Type} {fs : List Fd} {f : α → List V} {g : α → List U} {h : Heap} (ho : ∀ a, OwnR h fs (f a) (g a) []) : ∀ (ls : List α), Zip3 (OwnR h fs) (ls.map f) (ls.map g) []
  | [] => rfl
  | a :: ls => ⟨[], [], rfl, ho a, own_flat ho ls⟩
theorem own_row {α : Type} {fs : List Fd} {f : α → List V} {g : α → List U} {h : Heap} {id st n : Nat} {clip : Bool} (hd : fs.any Fd.deep = false) (ls : List α) (hn : n = ls.length) (hb : h[id]? = some (.rows st fs.length (ls.map f))) (ho : ∀ a, OwnR h fs (f a) (g a) []) : OwnF h (.sub fs) (.ref id st 0 n clip) (.sub (ls.map g)) [id] := by
  simp only [OwnF]
  refine ⟨_, rfl, .inr ⟨id, st, clip, ls.map f, [], by rw [hn, List.length_map], ?_, rfl, own_flat ho ls⟩⟩
  rw [hb]
  unfold blkOf
  rw [hd]
  rfl
theorem own_nil {fs : List Fd} {h : Heap} {c : Bool} {n : Nat} (hn : n = fs.length) : OwnF h (.sub fs) (.sl c n []) (.sub []) [] := by
  subst hn
  rw [OwnF]
  exact ⟨[], rfl, .inl ⟨c, rfl, rfl, rfl⟩⟩
end Go.Proofs.Ytnnjpiepoeknnaa.PE
/- Rows and columns as trees: what their sizes say, that only their values matter. -/
set_option linter.unusedVariables false
set_option linter.unusedSimpArgs false
set_option maxHeartbeats 4000000
namespace Go.Proofs.Ytnnjpiepoeknnaa.PE
open Go.RowKit

def rowU (r : Row) : List U := vsU r.vs
theorem AllU_sub {α : Type} {P : List U → Prop} {g : α → List U} : ∀ {l : List α}, AllU P (l.map g) → ∀ {l2 : List α}, (∀ x ∈ l2, x ∈ l) → AllU P (l2.map g)
  | l, h, [], _ => trivial
  | l, h, x :: r, hs => by
    refine ⟨?_, AllU_sub h (fun y hy => hs y (List.mem_cons_of_mem _ hy))⟩
    obtain ⟨i, hi⟩ := List.getElem?_of_mem (hs x List.mem_cons_self)
    exact AllU_at h (map_at g hi)
theorem sum_leP {P : List U → Prop} {c : List U → Nat} {n : Nat} (h : ∀ x, P x → c x ≤ n) : ∀ {xs : List (List U)}, AllU P xs → sumU c xs ≤ n * xs.length
  | [], _ => by simp [sumU]
  | x :: xs, ⟨h1, h2⟩ => by
    have := sum_leP h h2
    have := h x h1
    simp only [sumU, List.length_cons, Nat.mul_add, Nat.mul_one]
    omega
theorem cnt_vsU (vs : List Val) : cntR fdValueS (vsU vs) ≤ 4 + 3 * vs.length := by
  have : sumU (cntR fdValue) (vs.map valU) ≤ 3 * (vs.map valU).length := by
    induction vs with
    | nil => simp [sumU]
    | cons p ls ih =>
      have e : cntR fdValue (valU p) = 3 := rfl
      simp only [List.map_cons, sumU, e, List.length_cons]
      omega
  rw [List.length_map] at this
  simp only [vsU, fdValueS, cntR, cntF]
  omega
/-- What a size says of rows. -/
theorem rows_lim {rs : List Row} (L : LenF 1048576 1048576 (.sub fdValueS) (.sub (rs.map rowU))) : Fine rs ∧ Short rs ∧ (∀ r ∈ rs, r.vs.length ≤ 1048576) ∧ rs.length ≤ 1048576 := by
  simp only [LenF, List.length_map] at L
  have key : ∀ r ∈ rs, r.vs.length ≤ 1048576 ∧ AllU (LenR 1048576 1048576 fdValue) (r.vs.map valU) := by
    intro r hr
    obtain ⟨i, hi⟩ := List.getElem?_of_mem hr
    have := AllU_at L.2 (map_at rowU hi)
    simp only [fdValueS, rowU, vsU, LenR, LenF, List.length_map, and_true] at this
    exact this
  refine ⟨⟨by omega, fun r hr => by have := (key r hr).1; omega⟩, fun r hr => ⟨by have := (key r hr).1; omega, fun v hv => ?_⟩, fun r hr => (key r hr).1, L.1⟩
  obtain ⟨i, hi⟩ := List.getElem?_of_mem hv
  have := AllU_at (key r hr).2 (map_at valU hi)
  simp only [fdValue, valU, LenR, LenF, true_and, and_true] at this
  omega
theorem rows_res {rs : List Row} (L : LenF 1048576 1048576 (.sub fdValueS) (.sub (rs.map rowU))) {l2 : List Row} (hn : l2.length ≤ rs.length) (hs : ∀ x ∈ l2, x ∈ rs) : LenF big big (.sub fdValueS) (.sub (l2.map rowU)) ∧ (cntF (.sub fdValueS) (.sub (l2.map rowU)) : Int) ≤ 2305843009213693952 := by
  obtain ⟨-, -, k1, k2⟩ := rows_lim L
  have L2 : LenF 1048576 1048576 (.sub fdValueS) (.sub (l2.map rowU)) := by
    simp only [LenF, List.length_map] at L ⊢
    exact ⟨by omega, AllU_sub L.2 hs⟩
  refine ⟨LenF_mono (by decide) (by decide) _ L2, ?_⟩
  have : AllU (fun x => cntR fdValueS x ≤ 4194304) (l2.map rowU) := by
    have : ∀ l : List Row, (∀ x ∈ l, x ∈ rs) → AllU (fun x => cntR fdValueS x ≤ 4194304) (l.map rowU) := by
      intro l
      induction l with
      | nil => intro _; trivial
      | cons r l ih =>
        intro h
        refine ⟨?_, ih (fun x hx => h x (List.mem_cons_of_mem _ hx))⟩
        have := k1 r (h r List.mem_cons_self)
        have := cnt_vsU r.vs
        unfold rowU
        omega
    exact this l2 hs
  have := sum_leP (fun x h => h) this
  rw [List.length_map] at this
  simp only [cntF]
  omega
theorem rows_each {rs : List Row} {q : V} (k : PurF (.sub fdValueS) q (.sub (rs.map rowU))) : ∃ (c : Bool) (rs2 : List Row), q = .sl c 1 (rs2.map Row.cells) ∧ rs2.map rowU = rs.map rowU := by
  obtain ⟨c, _, rfl, y0⟩ := purS_ValueS k
  obtain ⟨rs', rfl, e0⟩ := rowsU_of y0
  exact ⟨c, rs', rfl, e0.symm⟩
theorem vss_of {a b : List Row} (h : a.map rowU = b.map rowU) : a.map Row.vs = b.map Row.vs := by
  have : (a.map Row.vs).map vsU = (b.map Row.vs).map vsU := by rw [List.map_map, List.map_map]; exact h
  exact map_inj (fun _ _ => vsU_inj) this
theorem all_vs {P : List Val → Bool} : ∀ {a b : List Row}, a.map Row.vs = b.map Row.vs → (a.all fun r => P r.vs) = (b.all fun r => P r.vs)
  | [], [], _ => rfl
  | x :: a, y :: b, h => by
    simp only [List.map_cons, List.cons.injEq] at h
    rw [List.all_cons, List.all_cons, h.1, all_vs h.2]
  | [], _ :: _, h => by simp at h
  | _ :: _, [], h => by simp at h
theorem rowsOk_vs {cs : List Col} {a b : List Row} (h : a.map Row.vs = b.map Row.vs) : rowsOk cs a = rowsOk cs b := by
  unfold rowsOk rowsFit
  rw [all_vs h]
theorem cols_each {cs : List Col} {q : V} (k : PurF (.sub fdColumn) q (.sub (cs.map colU))) : ∃ c, q = .sl c 2 (cs.map Col.cells) := by
  obtain ⟨c, _, rfl, y0⟩ := purS_Column k
  obtain ⟨cs', rfl, e0⟩ := colsU_of y0
  obtain rfl := map_inj (fun _ _ => colU_inj) e0
  exact ⟨c, rfl⟩
theorem lim_of {a b : List Row} (e : a.map rowU = b.map rowU) (L : LenF 1048576 1048576 (.sub fdValueS) (.sub (b.map rowU))) : Fine a ∧ Short a := by
  rw [← e] at L
  obtain ⟨h1, h2, _⟩ := rows_lim L
  exact ⟨h1, h2⟩
end Go.Proofs.Ytnnjpiepoeknnaa.PE
/- Copies of rows, and whether lists of rows are the same. -/
set_option linter.unusedSimpArgs false
set_option linter.unusedVariables false
set_option maxHeartbeats 4000000
namespace Go.Proofs.Ytnnjpiepoeknnaa.PE
open Go.RowKit

theorem clipkVal (d : Nat) (l : List (List V)) (n : Nat) (hn : n = l.length) : callX (runD tab noExt (d + 1)) [.rows 0 3 l] 2 169 [.ref 0 0 0 n false] = some (.ref 0 0 0 n true, [.rows 0 3 l]) := by
  subst hn
  simp only [callX, callK]
  rw [runD_eq find169 _ _ _ (by simp)]
  simp -implicitDefEqProofs (disch := omega) only [go_sem, Nat.reduceBEq, Nat.reduceAdd, Nat.reduceSub, Nat.reduceMul, Nat.reduceLeDiff, Nat.reduceEqDiff, Nat.reduceLT, Int.reduceNeg, Int.reduceAdd, Int.reduceSub, Int.reduceMul, Int.reduceLE, Int.reduceLT, Int.reduceEq, Int.reduceToNat, reduceCtorEq, List.take_length, Bool.true_or, resOk]
theorem runcVal (d : Nat) (c : Bool) (l : List (List V)) (h0 : 0 < l.length) (hl : l.length < 4294967296) : runD tab noExt (d + 2) 112 [.sl c 3 l] [] = some ([.ref 0 0 0 l.length true], [.rows 0 3 l]) := by
  rw [runD_eq find112 _ _ _ (by simp)]
  match l, h0, hl with
  | [], h0, _ => exact absurd h0 (by decide)
  | x :: r, _, hl =>
    have h0 : ((r.length : Int) + 1 = 0) = False := eq_false (by omega)
    have h1 : r.length + 1 < 4294967296 := by simpa using hl
    have hc := clipkVal d (x :: r) (r.length + 1) (by simp)
    simp -implicitDefEqProofs (disch := omega) only [go_sem, Nat.reduceBEq, Nat.reduceAdd, Nat.reduceSub, Nat.reduceMul, Nat.reduceLeDiff, Nat.reduceEqDiff, Nat.reduceLT, Int.reduceNeg, Int.reduceAdd, Int.reduceSub, Int.reduceMul, Int.reduceLE, Int.reduceLT, Int.reduceEq, Int.reduceToNat, reduceCtorEq, List.length_cons, h0, h1, hc]
theorem runnVal (d : Nat) (c : Bool) : runD tab noExt (d + 2) 112 [.sl c 3 []] [] = some ([.sl true 3 []], []) := by
  rw [runD_eq find112 _ _ _ (by simp)]
  simp -implicitDefEqProofs (disch := omega) only [go_sem, Nat.reduceBEq, Nat.reduceAdd, Nat.reduceSub, Nat.reduceMul, Nat.reduceLeDiff, Nat.reduceEqDiff, Nat.reduceLT, Int.reduceNeg, Int.reduceAdd, Int.reduceSub, Int.reduceMul, Int.reduceLE, Int.reduceLT, Int.reduceEq, Int.reduceToNat, reduceCtorEq]
theorem cloneVal (d : Nat) (c : Bool) (l : List (List V)) (hl : l.length < 4294967296) : retP (runD tab noExt (d + 2)) 112 [.sl c 3 l] = some [.sl true 3 l] := by
  match l, hl with
  | [], _ => rw [retP, runnVal]; rfl
  | x :: r, hl =>
    rw [retP, runcVal d c (x :: r) (by simp) hl]
    simp -implicitDefEqProofs only [go_sem, Nat.reduceBEq, Nat.reduceAdd, Nat.reduceSub, Nat.reduceMul, Nat.reduceLeDiff, Nat.reduceEqDiff, Nat.reduceLT, Int.reduceNeg, Int.reduceAdd, Int.reduceSub, Int.reduceMul, Int.reduceLE, Int.reduceLT, Int.reduceEq, Int.reduceToNat, reduceCtorEq, List.take_length]
theorem clonexVal (d : Nat) (h : Heap) (c : Bool) (l : List (List V)) (h0 : 0 < l.length) (hl : l.length < 4294967296) (hf : l.all (fun x => x.all freshC) = true) : callX (runD tab noExt (d + 2)) h 0 112 [.sl c 3 l] = some (.ref h.length 0 0 l.length true, h ++ [.rows 0 3 l]) := by
  simp only [callX, callO, pureDAs, mapO, pureDA, pureD, deepest, runcVal d c l h0 hl, BackO, List.all_cons, List.all_nil, scalarA, scalar, freshA, freshC, Bool.false_eq_true, Bool.false_and, Bool.and_self, if_false, if_true, List.map_cons, List.map_nil, oneOf, shA, shC, Nat.zero_add, movedH, clean, hf, shB]
theorem clonenVal (d : Nat) (h : Heap) (c : Bool) : callX (runD tab noExt (d + 2)) h 0 112 [.sl c 3 []] = some (.sl true 3 [], h) := by
  simp only [callX, callO, pureDAs, mapO, pureDA, pureD, deepest, runnVal d c, BackO, List.all_cons, List.all_nil, scalarA, scalar, freshA, freshC, isNil, Bool.false_eq_true, Bool.false_and, Bool.and_self, if_false, if_true, List.map_cons, List.map_nil, oneOf, shA, shC, movedH, List.append_nil]

/-- A row of one's own. -/
def Row.own (b : Bool) (r : Row) : Row := ⟨b, r.vs⟩
def own (b : Bool) (rs : List Row) : List Row := rs.map (Row.own b)
theorem foldl_snoc {α β : Type} (g : α → β) : ∀ (l : List α) (b : List β), l.foldl (fun b x => b ++ [g x]) b = b ++ l.map g
  | [], b => by simp
  | x :: r, b => by simp [foldl_snoc g r]
theorem lt_small {n m : Nat} {i : Nat} (h1 : n ≤ i) (h2 : (i : Int) < m) (h3 : m < 4294967296) : n + 1 < 4294967296 := by omega
def sameVs (a b : List Val) : Bool := decide (a = b)
theorem loop_sameRow (d : Nat) (c c' : Bool) (a b : List Val) (hs : a.length < 1099511627776) (hlen : a.length = b.length) (K : Nat) (hK : (a.zip b).length ≤ K) : LoopS (runD tab noExt d) (drawI (runD tab noExt d)) [0, 1, 5] [4] L110x0 ([] : Heap).length K [(0, .sl c 3 (a.map Val.cells)), (1, .sl c' 3 (b.map Val.cells)), (5, .int .i64 0)] [] = if (a.zip b).all (fun p => decide (p.1 = p.2)) then (some (.exit 0, [(4, .undef)], []) : Out) else (some (.ret, [(4, .bool false)], []) : Out) := by
  have key := LoopS_all (run := (runD tab noExt d)) (draw := drawI (runD tab noExt d)) (live := [0, 1, 5]) (out := [4]) (c := L110x0) (n0 := ([] : Heap).length) (a.zip b) (fun p => decide (p.1 = p.2)) (fun (i : Nat) => [(0, .sl c 3 (a.map Val.cells)), (1, .sl c' 3 (b.map Val.cells)), (5, .int .i64 i)]) [] (some (.exit 0, [(4, .undef)], []) : Out) (some (.ret, [(4, .bool false)], []) : Out) (fun K => ?_) (fun (i : Nat) (x : Val × Val) K hi hx => ?_) K hK
  · simp only [Int.natCast_zero] at key
    exact key
  · rw [LoopS_eq]
    simp -implicitDefEqProofs only [go_sem, Nat.reduceBEq, Nat.reduceAdd, Nat.reduceSub, Nat.reduceMul, Nat.reduceLeDiff, Nat.reduceEqDiff, Nat.reduceLT, Int.reduceNeg, Int.reduceAdd, Int.reduceSub, Int.reduceMul, Int.reduceLE, Int.reduceLT, Int.reduceEq, Int.reduceToNat, reduceCtorEq, evL110x0, B110x0, Int.lt_irrefl, List.length_zip, hlen, Nat.min_self, evC_draw, evD110x0, E110x0, Val.cells]
  · obtain ⟨g1, g2⟩ := List.getElem?_zip_eq_some.1 hx; rw [List.length_zip, hlen, Nat.min_self] at hi; obtain ⟨⟨k1, n1, s1⟩, ⟨k2, n2, s2⟩⟩ := x
    rw [LoopS_eq]
    simp -implicitDefEqProofs (disch := omega) only [go_sem, Nat.reduceBEq, Nat.reduceAdd, Nat.reduceSub, Nat.reduceMul, Nat.reduceLeDiff, Nat.reduceEqDiff, Nat.reduceLT, Int.reduceNeg, Int.reduceAdd, Int.reduceSub, Int.reduceMul, Int.reduceLE, Int.reduceLT, Int.reduceEq, Int.reduceToNat, reduceCtorEq, evL110x0, B110x0, hi, hx, IntWalk.i64_in, List.length_zip, hlen, Nat.min_self, evC_draw, evD110x0, E110x0, Val.cells, *]
    repeat' ((first | rw [GuardI_ndec] | rw [CondC_ndec] | rw [GuardQ_ndec] | rw [GuardI_dec] | rw [CondC_dec] | rw [GuardQ_dec] | rw [GuardI_nby] | rw [CondC_nby] | rw [GuardQ_nby] | rw [GuardQ_by] | rw [GuardI_by] | rw [CondC_by]) <;> split <;> simp -implicitDefEqProofs (disch := omega) only [go_sem, Nat.reduceBEq, Nat.reduceAdd, Nat.reduceSub, Nat.reduceMul, Nat.reduceLeDiff, Nat.reduceEqDiff, Nat.reduceLT, Int.reduceNeg, Int.reduceAdd, Int.reduceSub, Int.reduceMul, Int.reduceLE, Int.reduceLT, Int.reduceEq, Int.reduceToNat, reduceCtorEq, hi, hx, IntWalk.i64_in, List.length_zip, hlen, Nat.min_self, evC_draw, evD110x0, E110x0, Val.cells, *, *])
    all_goals first | rfl | (simp_all [Val.mk.injEq]; done) | (simp_all [Val.mk.injEq]; omega)
theorem zip_same {α : Type} [DecidableEq α] : ∀ (a b : List α), a.length = b.length → ((a.zip b).all fun p => decide (p.1 = p.2)) = decide (a = b)
  | [], [], _ => by simp
  | x :: a, y :: b, h => by
    have := zip_same a b (by simpa using h)
    simp only [List.zip_cons_cons, List.all_cons, this]
    by_cases h1 : x = y <;> by_cases h2 : a = b <;> simp [h1, h2]
  | [], _ :: _, h => by simp at h
  | _ :: _, [], h => by simp at h
-- find110
theorem run_sameRow (d : Nat) (c c' : Bool) (a b : List Val) (hs : a.length < 1099511627776) : retP (runD tab noExt (d + 1)) 110 [.sl c 3 (a.map Val.cells), .sl c' 3 (b.map Val.cells)] = some [.bool (decide (a = b))] := by
  rw [retP, runD_eq find110 _ _ _ (by simp)]
  by_cases hlen : a.length = b.length
  · have hl := loop_sameRow d c c' a b hs hlen 1099511627775 (by simp; omega)
    simp -implicitDefEqProofs only [go_sem, Nat.reduceBEq, Nat.reduceAdd, Nat.reduceSub, Nat.reduceMul, Nat.reduceLeDiff, Nat.reduceEqDiff, Nat.reduceLT, Int.reduceNeg, Int.reduceAdd, Int.reduceSub, Int.reduceMul, Int.reduceLE, Int.reduceLT, Int.reduceEq, Int.reduceToNat, reduceCtorEq, hlen] at hl ⊢
    rw [hl, zip_same a b hlen]
    by_cases h : a = b <;> simp -implicitDefEqProofs only [go_sem, Nat.reduceBEq, Nat.reduceAdd, Nat.reduceSub, Nat.reduceMul, Nat.reduceLeDiff, Nat.reduceEqDiff, Nat.reduceLT, Int.reduceNeg, Int.reduceAdd, Int.reduceSub, Int.reduceMul, Int.reduceLE, Int.reduceLT, Int.reduceEq, Int.reduceToNat, reduceCtorEq, h]
  · have h1 : ((a.length : Int) = b.length) = False := eq_false (by omega)
    have h2 : ¬ a = b := fun e => hlen (by rw [e])
    simp -implicitDefEqProofs only [go_sem, Nat.reduceBEq, Nat.reduceAdd, Nat.reduceSub, Nat.reduceMul, Nat.reduceLeDiff, Nat.reduceEqDiff, Nat.reduceLT, Int.reduceNeg, Int.reduceAdd, Int.reduceSub, Int.reduceMul, Int.reduceLE, Int.reduceLT, Int.reduceEq, Int.reduceToNat, reduceCtorEq, h1, h2]
def vss (rs : List Row) : List (List Val) := rs.map Row.vs
theorem loop_sameRows (d : Nat) (c c' : Bool) (a b : List Row) (hs : a.length < 1099511627776) (hsa : ∀ r ∈ a, r.vs.length < 1099511627776) (hlen : a.length = b.length) (K : Nat) (hK : (a.zip b).length ≤ K) : LoopS (runD tab noExt (d + 1)) (drawI (runD tab noExt (d + 1))) [0, 1, 5] [4] L43x0 ([] : Heap).length K [(0, .sl c 1 (a.map Row.cells)), (1, .sl c' 1 (b.map Row.cells)), (5, .int .i64 0)] [] = if (a.zip b).all (fun p => decide (p.1.vs = p.2.vs)) then (some (.exit 0, [(4, .undef)], []) : Out) else (some (.ret, [(4, .bool false)], []) : Out) := by
  have key := LoopS_all (run := (runD tab noExt (d + 1))) (draw := drawI (runD tab noExt (d + 1))) (live := [0, 1, 5]) (out := [4]) (c := L43x0) (n0 := ([] : Heap).length) (a.zip b) (fun p => decide (p.1.vs = p.2.vs)) (fun (i : Nat) => [(0, .sl c 1 (a.map Row.cells)), (1, .sl c' 1 (b.map Row.cells)), (5, .int .i64 i)]) [] (some (.exit 0, [(4, .undef)], []) : Out) (some (.ret, [(4, .bool false)], []) : Out) (fun K => ?_) (fun (i : Nat) (x : Row × Row) K hi hx => ?_) K hK
  · simp only [Int.natCast_zero] at key
    exact key
  · rw [LoopS_eq]
    simp -implicitDefEqProofs only [go_sem, Nat.reduceBEq, Nat.reduceAdd, Nat.reduceSub, Nat.reduceMul, Nat.reduceLeDiff, Nat.reduceEqDiff, Nat.reduceLT, Int.reduceNeg, Int.reduceAdd, Int.reduceSub, Int.reduceMul, Int.reduceLE, Int.reduceLT, Int.reduceEq, Int.reduceToNat, reduceCtorEq, evL43x0, B43x0, Int.lt_irrefl, List.length_zip, hlen, Nat.min_self, evC_draw, evD43x0, E43x0, Row.cells, Row.v]
  · obtain ⟨g1, g2⟩ := List.getElem?_zip_eq_some.1 hx; rw [List.length_zip, hlen, Nat.min_self] at hi; have hss := run_sameRow d x.1.clip x.2.clip x.1.vs x.2.vs (hsa _ (List.mem_of_getElem? g1))
    rw [LoopS_eq]
    simp -implicitDefEqProofs (disch := omega) only [go_sem, Nat.reduceBEq, Nat.reduceAdd, Nat.reduceSub, Nat.reduceMul, Nat.reduceLeDiff, Nat.reduceEqDiff, Nat.reduceLT, Int.reduceNeg, Int.reduceAdd, Int.reduceSub, Int.reduceMul, Int.reduceLE, Int.reduceLT, Int.reduceEq, Int.reduceToNat, reduceCtorEq, evL43x0, B43x0, hi, hx, IntWalk.i64_in, List.length_zip, hlen, Nat.min_self, evC_draw, evD43x0, E43x0, Row.cells, Row.v, *]
    repeat' ((first | rw [GuardI_ndec] | rw [CondC_ndec] | rw [GuardQ_ndec] | rw [GuardI_dec] | rw [CondC_dec] | rw [GuardQ_dec] | rw [GuardI_nby] | rw [CondC_nby] | rw [GuardQ_nby] | rw [GuardQ_by] | rw [GuardI_by] | rw [CondC_by]) <;> split <;> simp -implicitDefEqProofs (disch := omega) only [go_sem, Nat.reduceBEq, Nat.reduceAdd, Nat.reduceSub, Nat.reduceMul, Nat.reduceLeDiff, Nat.reduceEqDiff, Nat.reduceLT, Int.reduceNeg, Int.reduceAdd, Int.reduceSub, Int.reduceMul, Int.reduceLE, Int.reduceLT, Int.reduceEq, Int.reduceToNat, reduceCtorEq, hi, hx, IntWalk.i64_in, List.length_zip, hlen, Nat.min_self, evC_draw, evD43x0, E43x0, Row.cells, Row.v, *, *])
    all_goals first | rfl | (simp_all []; done) | (simp_all []; omega)
theorem zip_sames : ∀ (a b : List Row), a.length = b.length → ((a.zip b).all fun p => decide (p.1.vs = p.2.vs)) = decide (vss a = vss b)
  | [], [], _ => by simp
  | x :: a, y :: b, h => by
    have := zip_sames a b (by simpa using h)
    simp only [vss] at this
    simp only [List.zip_cons_cons, List.all_cons, this, vss, List.map_cons]
    by_cases h1 : x.vs = y.vs <;> by_cases h2 : a.map Row.vs = b.map Row.vs <;> simp [h1, h2]
  | [], _ :: _, h => by simp at h
  | _ :: _, [], h => by simp at h
-- find43
theorem run_sameRows (d : Nat) (c c' : Bool) (a b : List Row) (hs : a.length < 1099511627776) (hsa : ∀ r ∈ a, r.vs.length < 1099511627776) : retP (runD tab noExt (d + 2)) 43 [.sl c 1 (a.map Row.cells), .sl c' 1 (b.map Row.cells)] = some [.bool (decide (vss a = vss b))] := by
  rw [retP, runD_eq find43 _ _ _ (by simp)]
  by_cases hlen : a.length = b.length
  · have hl := loop_sameRows d c c' a b hs hsa hlen 1099511627775 (by simp; omega)
    simp -implicitDefEqProofs only [go_sem, Nat.reduceBEq, Nat.reduceAdd, Nat.reduceSub, Nat.reduceMul, Nat.reduceLeDiff, Nat.reduceEqDiff, Nat.reduceLT, Int.reduceNeg, Int.reduceAdd, Int.reduceSub, Int.reduceMul, Int.reduceLE, Int.reduceLT, Int.reduceEq, Int.reduceToNat, reduceCtorEq, hlen] at hl ⊢
    rw [hl, zip_sames a b hlen]
    by_cases h : vss a = vss b <;> simp -implicitDefEqProofs only [go_sem, Nat.reduceBEq, Nat.reduceAdd, Nat.reduceSub, Nat.reduceMul, Nat.reduceLeDiff, Nat.reduceEqDiff, Nat.reduceLT, Int.reduceNeg, Int.reduceAdd, Int.reduceSub, Int.reduceMul, Int.reduceLE, Int.reduceLT, Int.reduceEq, Int.reduceToNat, reduceCtorEq, h]
  · have h1 : ((a.length : Int) = b.length) = False := eq_false (by omega)
    have h2 : ¬ vss a = vss b := fun e => hlen (by have := congrArg List.length e; simpa [vss] using this)
    simp -implicitDefEqProofs only [go_sem, Nat.reduceBEq, Nat.reduceAdd, Nat.reduceSub, Nat.reduceMul, Nat.reduceLeDiff, Nat.reduceEqDiff, Nat.reduceLT, Int.reduceNeg, Int.reduceAdd, Int.reduceSub, Int.reduceMul, Int.reduceLE, Int.reduceLT, Int.reduceEq, Int.reduceToNat, reduceCtorEq, h1, h2]
end Go.Proofs.Ytnnjpiepoeknnaa.PE
/- Rows of rows that grow, element by element, each of memory of its own. -/
set_option linter.unusedVariables false
set_option linter.unusedSimpArgs false
namespace Go.Proofs.Ytnnjpiepoeknnaa.PE
open Go.RowKit

/-- What has been gathered up to now. -/
def Grown (fs : List Fd) (id : Nat) (h : Heap) (done : List (List V)) (xs : List (List U)) : Prop :=
  h[id]? = some (blkOf fs done.length done) ∧ ∃ ids, Zip3 (OwnR h fs) done xs ids ∧ (id :: ids).Nodup
theorem Grown.nest {fs : List Fd} {id : Nat} {h : Heap} {done : List (List V)} {xs : List (List U)} (g : Grown fs id h done xs) (hd : fs.any Fd.deep = true) : h[id]? = some (.nest done.length fs.length done) := by
  have := g.1
  unfold blkOf at this
  rw [hd] at this
  exact this
theorem Grown.len {fs : List Fd} {id : Nat} {h : Heap} {done : List (List V)} {xs : List (List U)} (g : Grown fs id h done xs) : done.length = xs.length := by
  obtain ⟨_, ids, z, _⟩ := g
  exact Zip3_len z
theorem Grown.lt {fs : List Fd} {id : Nat} {h : Heap} {done : List (List V)} {xs : List (List U)} (g : Grown fs id h done xs) : id < h.length := (List.getElem?_eq_some_iff.1 g.1).1
theorem Grown.start {fs : List Fd} {id : Nat} {h : Heap} (hb : h[id]? = some (blkOf fs 0 [])) : Grown fs id h [] [] := ⟨hb, [], rfl, by simp⟩
theorem Grown.frame {fs : List Fd} {id : Nat} {h h1 : Heap} {done : List (List V)} {xs : List (List U)} (g : Grown fs id h done xs) (keep : ∀ j, j < h.length → h1[j]? = h[j]?) : Grown fs id h1 done xs := by
  obtain ⟨g1, ids, z, nd⟩ := g
  refine ⟨(keep id (List.getElem?_eq_some_iff.1 g1).1).trans g1, ids, ?_, nd⟩
  exact Zip3_mono (P := fun _ => True) (fun c x i hr _ => OwnR_frame _ hr (fun j hj => keep j (OwnR_lt _ hr j hj))) z (fun _ _ => trivial)
theorem Grown.add {fs : List Fd} {id : Nat} {h h1 h2 : Heap} {done : List (List V)} {xs : List (List U)} {cells : List V} {x : List U} {js : List Nat} (g : Grown fs id h done xs) (own : OwnR h1 fs cells x js) (nd : js.Nodup)
    (fresh : ∀ j ∈ js, h.length ≤ j) (keep : ∀ j, j < h.length → h1[j]? = h[j]?) (e2 : h2 = h1.set id (blkOf fs (done.length + 1) (done ++ [cells]))) : Grown fs id h2 (done ++ [cells]) (xs ++ [x]) := by
  subst e2
  have hlt := g.lt
  obtain ⟨g1, ids, z, nd1⟩ := g
  have hl1 : id < h1.length := by
    have := keep id hlt
    rw [List.getElem?_eq_getElem hlt] at this
    exact (List.getElem?_eq_some_iff.1 this).1
  obtain ⟨n1, n2⟩ := List.nodup_cons.1 nd1
  have hids : ∀ j ∈ ids, j < h.length := Zip3_all (fun c x i hr => OwnR_lt fs hr) z
  refine ⟨by rw [List.getElem?_set_self hl1, List.length_append]; rfl, ids ++ js, Zip3_app (Zip3_mono (P := fun j => j ∈ ids) (fun c x i hr hp => OwnR_frame fs hr (fun j hj => ?_)) z (fun _ hm => hm)) (Zip3_one (OwnR_frame fs own (fun j hj => ?_))), ?_⟩
  · have hne : id ≠ j := fun e => n1 (e ▸ hp j hj)
    rw [List.getElem?_set_ne hne]
    exact keep j (hids j (hp j hj))
  · have hne : id ≠ j := fun e => by have := fresh j hj; omega
    rw [List.getElem?_set_ne hne]
  · refine List.nodup_cons.2 ⟨fun hm => ?_, List.nodup_append.2 ⟨n2, nd, fun p hp q hq => ?_⟩⟩
    · rcases List.mem_append.1 hm with hm | hm
      · exact n1 hm
      · have := fresh id hm; omega
    · have := hids p hp
      have := fresh q hq
      omega
theorem Grown.set {fs : List Fd} {id : Nat} {h h1 : Heap} {done : List (List V)} {xs : List (List U)} {k : Nat} {b : Blk} (g : Grown fs id h done xs) (hk : h.length ≤ k) : Grown fs id (h.set k b) done xs := by
  rw [List.set_eq_of_length_le hk]
  exact g
theorem Grown.own {fs : List Fd} {id : Nat} {h : Heap} {done : List (List V)} {xs : List (List U)} {n : Nat} {clip : Bool} (g : Grown fs id h done xs) (hn : n = done.length) : ∃ ids, OwnF h (.sub fs) (.ref id n 0 n clip) (.sub xs) ids ∧ ids.Nodup := by
  subst hn
  obtain ⟨g1, ids, z, nd⟩ := g
  refine ⟨id :: ids, ?_, nd⟩
  simp only [OwnF]
  exact ⟨xs, rfl, .inr ⟨id, done.length, clip, done, ids, rfl, g1, rfl, z⟩⟩
end Go.Proofs.Ytnnjpiepoeknnaa.PE
/- Copies of rows as memory of one's own. -/
set_option linter.unusedVariables false
set_option linter.unusedSimpArgs false
set_option maxHeartbeats 4000000
namespace Go.Proofs.Ytnnjpiepoeknnaa.PE
open Go.RowKit

theorem val_own (h : Heap) (v : Val) : OwnR h fdValue v.cells (valU v) [] := ownR_mk_Value h v.kind v.n v.s
theorem own_cloneVal (d : Nat) (c : Bool) (vs : List Val) (hl : vs.length < 4294967296) : ∃ v hc ids, runD tab noExt (d + 2) 112 [.sl c 3 (vs.map Val.cells)] [] = some ([v], hc) ∧ OwnF hc (.sub fdValue) v (.sub (vs.map valU)) ids ∧ ids.Nodup := by
  match vs, hl with
  | [], _ => exact ⟨_, _, [], runnVal d c, own_nil rfl, List.nodup_nil⟩
  | x :: r, hl => exact ⟨_, _, [0], runcVal d c ((x :: r).map Val.cells) (by simp) (by simpa using hl), own_row rfl (x :: r) (by simp) rfl (val_own _), by simp⟩
-- find109
theorem loop_copy (d : Nat) (c : Bool) (rs : List Row) (hf : Fine rs) : ∃ h' cont r, LoopK (runD tab noExt (d + 2)) (drawI (runD tab noExt (d + 2))) [3, 6, 7, 8] [3] L109x0 1099511627775 [(3, .ref 0 0 0 0 false), (6, .sl c 1 (rs.map Row.cells)), (7, .int .i64 rs.length), (8, .int .i64 0)] [.nest 0 1 []] = some (.exit 0, [(3, .ref 0 rs.length 0 rs.length false)], h') ∧ h'[0]? = some (.nest rs.length 1 cont) ∧ cont.length = rs.length ∧ Zip3 (OwnR h' fdValueS) cont (rs.map rowU) r ∧ (0 :: r).Nodup := by
  have hf0 := hf.1
  obtain ⟨h', ⟨done, ids, g1, g2, g3, g4, g5⟩, e⟩ := LoopK_inv (run := runD tab noExt (d + 2)) (draw := drawI (runD tab noExt (d + 2))) (live := [3, 6, 7, 8]) (out := [3]) (c := L109x0) rs.length
    (fun i (h : Heap) => ∃ done ids, h[0]? = some (.nest i 1 done) ∧ done.length = i ∧ Zip3 (OwnR h fdValueS) done ((rs.take i).map rowU) ids ∧ ids.Nodup ∧ 0 ∉ ids)
    (fun i _ => [(3, .ref 0 i 0 i false), (6, .sl c 1 (rs.map Row.cells)), (7, .int .i64 rs.length), (8, .int .i64 (i : Nat))]) (fun h => h) (fun h => some (.exit 0, [(3, .ref 0 rs.length 0 rs.length false)], h))
    (fun h K hb => by
      rw [LoopK_eq]
      simp -implicitDefEqProofs only [go_sem, Nat.reduceBEq, Nat.reduceAdd, Nat.reduceSub, Nat.reduceMul, Nat.reduceLeDiff, Nat.reduceEqDiff, Nat.reduceLT, Int.reduceNeg, Int.reduceAdd, Int.reduceSub, Int.reduceMul, Int.reduceLE, Int.reduceLT, Int.reduceEq, Int.reduceToNat, reduceCtorEq, evL109x0, B109x0, Int.lt_irrefl]) (fun i h K hi hb => by
      obtain ⟨done, ids, g1, g2, g3, g4, g5⟩ := hb
      have hx := List.getElem?_eq_getElem hi
      generalize rs[i] = x at hx
      obtain ⟨v, hc, is0, e1, e2, e3⟩ := own_cloneVal d x.clip x.vs (Fine_at hf hx)
      obtain ⟨w, h1, js, k1, k2, k3, k4, k5, k6⟩ := own_call (h := h) (args := [.sl x.clip 3 (x.vs.map Val.cells)]) (by simp only [pureDAs, mapO, pureDA, pureD]) e1 e2 e3
      have h0 : 0 < h.length := (List.getElem?_eq_some_iff.1 g1).1
      have h10 : 0 < h1.length := by omega
      have g1' : h1[0]? = some (.nest i 1 done) := by rw [k5 0 h0, g1]
      have hlt := Zip3_all (fun c x i hr => OwnR_lt fdValueS hr) g3
      have hj0 : 0 ∉ js := fun hm => by have := k4 0 hm; omega
      refine ⟨h1.set 0 (.nest (i + 1) 1 (done ++ [[w]])), ⟨done ++ [[w]], ids ++ js, ?_, by simp [g2], ?_, ?_, ?_⟩, ?_⟩
      · rw [List.getElem?_set_self h10]
      · rw [take_snoc hx, List.map_append]
        refine Zip3_app (Zip3_mono (P := fun id => id ∈ ids) (fun c x j hr hp => OwnR_frame _ hr (fun id hid => ?_)) g3 (fun _ h => h)) (Zip3_one ⟨w, [], _, [], js, [], rfl, rfl, by simp, OwnF_frame _ k2 (fun id hid => ?_), rfl, rfl, rfl⟩)
        · have hne : 0 ≠ id := fun e => g5 (e ▸ hp id hid)
          rw [List.getElem?_set_ne hne]
          exact k5 id (hlt id (hp id hid))
        · have hne : 0 ≠ id := fun e => hj0 (e ▸ hid)
          rw [List.getElem?_set_ne hne]
      · refine List.nodup_append.2 ⟨g4, k3, fun p hp q hq => ?_⟩
        have := hlt p hp
        have := k4 q hq
        omega
      · intro hm
        rcases List.mem_append.1 hm with hm | hm
        · exact g5 hm
        · exact hj0 hm
      · have hi' : (i : Int) < rs.length := by omega
        have hsm : done.length + 1 < 4294967296 := by omega
        rw [LoopK_eq]
        subst g2
        rcases own_cases k2 with ⟨c', rfl⟩ | ⟨id, st, n, clip, rfl⟩
        · simp -implicitDefEqProofs (disch := omega) only [go_sem, Nat.reduceBEq, Nat.reduceAdd, Nat.reduceSub, Nat.reduceMul, Nat.reduceLeDiff, Nat.reduceEqDiff, Nat.reduceLT, Int.reduceNeg, Int.reduceAdd, Int.reduceSub, Int.reduceMul, Int.reduceLE, Int.reduceLT, Int.reduceEq, Int.reduceToNat, reduceCtorEq, evL109x0, B109x0, hi', hx, Row.cells, Row.v, k1, g1', elemsN, elemN, listN, appendN, okN, hsm, IntWalk.i64_in, small]
        · simp -implicitDefEqProofs (disch := omega) only [go_sem, Nat.reduceBEq, Nat.reduceAdd, Nat.reduceSub, Nat.reduceMul, Nat.reduceLeDiff, Nat.reduceEqDiff, Nat.reduceLT, Int.reduceNeg, Int.reduceAdd, Int.reduceSub, Int.reduceMul, Int.reduceLE, Int.reduceLT, Int.reduceEq, Int.reduceToNat, reduceCtorEq, evL109x0, B109x0, hi', hx, Row.cells, Row.v, k1, g1', elemsN, elemN, listN, appendN, okN, hsm, IntWalk.i64_in, small]) 1099511627775 (by omega) [.nest 0 1 []] ⟨[], [], rfl, rfl, rfl, List.nodup_nil, by simp⟩
  rw [List.take_of_length_le (Nat.le_refl _)] at g3
  exact ⟨h', done, ids, e, g1, g2, g3, List.nodup_cons.2 ⟨g5, g4⟩⟩
theorem clip_nest (d : Nat) (h : Heap) (n : Nat) {cont : List (List V)} (hb : h[0]? = some (.nest n 1 cont)) (hn : cont.length = n) : callX (runD tab noExt (d + 1)) h 2 167 [.ref 0 n 0 n false] = some (.ref 0 n 0 n true, h) := by
  simp only [callX, callK]
  rw [runD_eq find167 _ _ _ (by simp)]
  simp -implicitDefEqProofs (disch := omega) only [go_sem, Nat.reduceBEq, Nat.reduceAdd, Nat.reduceSub, Nat.reduceMul, Nat.reduceLeDiff, Nat.reduceEqDiff, Nat.reduceLT, Int.reduceNeg, Int.reduceAdd, Int.reduceSub, Int.reduceMul, Int.reduceLE, Int.reduceLT, Int.reduceEq, Int.reduceToNat, reduceCtorEq, Bool.true_or, resOk, hb, hn]
theorem own_rowsCopy (d : Nat) (c : Bool) (rs : List Row) (hf : Fine rs) : ∃ v hc ids, runD tab noExt (d + 3) 109 [.sl c 1 (rs.map Row.cells)] [] = some ([v], hc) ∧ OwnF hc (.sub fdValueS) v (.sub (rs.map rowU)) ids ∧ ids.Nodup := by
  obtain ⟨h', cont, r, e, e1, e2, e3, e4⟩ := loop_copy d c rs hf
  refine ⟨.ref 0 rs.length 0 rs.length true, h', 0 :: r, ?_, ?_, e4⟩
  · rw [runD_eq find109 _ _ _ (by simp)]
    have h0 := hf.1
    have hc := clip_nest (d + 1) h' rs.length e1 e2
    simp -implicitDefEqProofs (disch := omega) only [go_sem, Nat.reduceBEq, Nat.reduceAdd, Nat.reduceSub, Nat.reduceMul, Nat.reduceLeDiff, Nat.reduceEqDiff, Nat.reduceLT, Int.reduceNeg, Int.reduceAdd, Int.reduceSub, Int.reduceMul, Int.reduceLE, Int.reduceLT, Int.reduceEq, Int.reduceToNat, reduceCtorEq]
    try simp -implicitDefEqProofs only [go_sem, Nat.reduceBEq, Nat.reduceAdd, Nat.reduceSub, Nat.reduceMul, Nat.reduceLeDiff, Nat.reduceEqDiff, Nat.reduceLT, Int.reduceNeg, Int.reduceAdd, Int.reduceSub, Int.reduceMul, Int.reduceLE, Int.reduceLT, Int.reduceEq, Int.reduceToNat, reduceCtorEq] at e
    rw [e]
    simp -implicitDefEqProofs (disch := omega) only [go_sem, Nat.reduceBEq, Nat.reduceAdd, Nat.reduceSub, Nat.reduceMul, Nat.reduceLeDiff, Nat.reduceEqDiff, Nat.reduceLT, Int.reduceNeg, Int.reduceAdd, Int.reduceSub, Int.reduceMul, Int.reduceLE, Int.reduceLT, Int.reduceEq, Int.reduceToNat, reduceCtorEq, hc]
  · simp only [OwnF]
    exact ⟨_, rfl, .inr ⟨0, rs.length, true, cont, r, by rw [e2], e1, rfl, e3⟩⟩
end Go.Proofs.Ytnnjpiepoeknnaa.PE
/- The row that a key has at a time, and the rows at a time: the program's. -/
set_option linter.unusedVariables false
set_option linter.unusedSimpArgs false
set_option maxHeartbeats 4000000
namespace Go.Proofs.Ytnnjpiepoeknnaa.PE
open Go.RowKit

-- find45
theorem run_seenI (d : Nat) (c : Bool) (l : List Ver) (key time : Int) (hs : l.length < 1099511627776) (hsh : ShortVs l) (hfn : ∀ v ∈ l, v.row.vs.length < 4294967296) : ∃ cl, retP (runD tab noExt (d + 9)) 45 [.sl c 4 (l.map Ver.cells), .int .i64 key, .int .i64 time] = some [.sl cl 3 (((rowAt l key time).getD Ver.zero).row.vs.map Val.cells), .bool (rowAt l key time).isSome] := by
  rw [retP, runD_eq find45 _ _ _ (by simp)]
  have hv := run_versI d c l hs hsh
  have hse := run_seen (d + 7) c l key time hs
  have hmem : ∀ v, l.find? (Ver.at key time) = some v → v ∈ l := fun v hv => List.mem_of_find?_eq_some hv
  unfold rowAt
  cases hok : versOk l
  · rw [hok] at hv
    exact ⟨true, by simp -implicitDefEqProofs (disch := omega) only [go_sem, Nat.reduceBEq, Nat.reduceAdd, Nat.reduceSub, Nat.reduceMul, Nat.reduceLeDiff, Nat.reduceEqDiff, Nat.reduceLT, Int.reduceNeg, Int.reduceAdd, Int.reduceSub, Int.reduceMul, Int.reduceLE, Int.reduceLT, Int.reduceEq, Int.reduceToNat, reduceCtorEq, hv, Option.getD_none, Option.isSome_none, Ver.zero, List.map_nil]⟩
  · rw [hok] at hv
    generalize hw : (l.find? (Ver.at key time)) = o at hse hmem ⊢
    have hlen : (o.getD Ver.zero).row.vs.length < 4294967296 := by
      cases o with
      | none => simp [Ver.zero]
      | some v => exact hfn v (hmem v rfl)
    simp only [if_true]
    generalize o.getD Ver.zero = w at hse hlen ⊢
    clear hw hmem
    obtain ⟨key', born, died, ⟨rc, vs⟩⟩ := w
    try simp only at hlen
    try simp only [if_true]
    cases vs with
    | nil =>
      have hcl := clonenVal (d + 6) [.box [.int .i64 key', .int .i64 born, .int .i64 died, .sl rc 3 []]] rc
      exact ⟨true, by simp -implicitDefEqProofs (disch := omega) only [go_sem, Nat.reduceBEq, Nat.reduceAdd, Nat.reduceSub, Nat.reduceMul, Nat.reduceLeDiff, Nat.reduceEqDiff, Nat.reduceLT, Int.reduceNeg, Int.reduceAdd, Int.reduceSub, Int.reduceMul, Int.reduceLE, Int.reduceLT, Int.reduceEq, Int.reduceToNat, reduceCtorEq, hv, hse, Ver.cells, Row.v, List.map_nil, hcl]⟩
    | cons x r =>
      have hcl := clonexVal (d + 6) [.box [.int .i64 key', .int .i64 born, .int .i64 died, .sl rc 3 ((x :: r).map Val.cells)]] rc ((x :: r).map Val.cells) (by simp) (by simpa using hlen) (by simp [Val.cells, freshC])
      simp only [List.length_map, List.length_cons, List.map_cons, Val.cells] at hcl
      exact ⟨true, by simp -implicitDefEqProofs (disch := omega) only [go_sem, Nat.reduceBEq, Nat.reduceAdd, Nat.reduceSub, Nat.reduceMul, Nat.reduceLeDiff, Nat.reduceEqDiff, Nat.reduceLT, Int.reduceNeg, Int.reduceAdd, Int.reduceSub, Int.reduceMul, Int.reduceLE, Int.reduceLT, Int.reduceEq, Int.reduceToNat, reduceCtorEq, hv, hse, Ver.cells, Row.v, List.map_cons, Val.cells, hcl]⟩
def addRowI (l : List Ver) (time : Int) (b : List Row) (k : Int) : List Row := match l.find? (Ver.at k time) with
  | some v => b ++ [v.row]
  | none => b
theorem addRowI_len {l : List Ver} {time k : Int} {b : List Row} {i : Nat} (h : b.length ≤ i) : (addRowI l time b k).length ≤ i + 1 := by
  unfold addRowI
  split
  · simp; omega
  · omega
theorem addRowI_eq (l : List Ver) (time : Int) (hok : versOk l = true) : ∀ (ks : List Int) (b : List Row), (ks.foldl (addRowI l time) b).map rowU = b.map rowU ++ ((ks.filterMap fun k => rowV l k time).map (Row.mk false)).map rowU
  | [], b => by simp
  | k :: ks, b => by
    rw [List.foldl_cons, addRowI_eq l time hok ks]
    have e : rowV l k time = (l.find? (Ver.at k time)).map fun v => v.row.vs := by unfold rowV rowAt; rw [hok]; rfl
    unfold addRowI
    cases h : l.find? (Ver.at k time) with
    | none => rw [h] at e; simp at e; simp [e]
    | some v => rw [h] at e; simp at e; simp [e, rowU]
theorem addRowI_fine (l : List Ver) (time : Int) (hfn : ∀ v ∈ l, v.row.vs.length < 4294967296) : ∀ (ks : List Int) (b : List Row), (∀ r ∈ b, r.vs.length < 4294967296) → ∀ r ∈ ks.foldl (addRowI l time) b, r.vs.length < 4294967296
  | [], b, hb => hb
  | k :: ks, b, hb => by
    refine addRowI_fine l time hfn ks _ (fun r hr => ?_)
    unfold addRowI at hr
    split at hr
    · rename_i v hv
      rcases List.mem_append.1 hr with hr | hr
      · exact hb r hr
      · rw [List.mem_singleton.1 hr]
        exact hfn v (List.mem_of_find?_eq_some hv)
    · exact hb r hr
theorem loop_rowsAtI (d : Nat) (c : Bool) (l : List Ver) (time : Int) (hs : l.length < 1099511627776) (K : Nat) (hK : (keys5).length ≤ K) (b0 : List Row) (hb0 : (fun (i : Nat) (b : List Row) => b.length ≤ i) 0 b0) : LoopS (runD tab noExt (d + 1)) (drawI (runD tab noExt (d + 1))) [0, 1, 5, 12] [5] L42x0 ([.rows (b0).length 1 ((b0).map Row.cells)] : Heap).length K [(0, .sl c 4 (l.map Ver.cells)), (1, .int .i64 time), (5, .ref 0 (b0).length 0 (b0).length false), (12, .int .i64 (0 : Nat))] [.rows (b0).length 1 ((b0).map Row.cells)] = (some (.exit 0, [(5, .ref 0 (((keys5).foldl (addRowI l time) b0)).length 0 (((keys5).foldl (addRowI l time) b0)).length false)], [.rows (((keys5).foldl (addRowI l time) b0)).length 1 ((((keys5).foldl (addRowI l time) b0)).map Row.cells)]) : Out) ∧ (fun (i : Nat) (b : List Row) => b.length ≤ i) (keys5).length ((keys5).foldl (addRowI l time) b0) := by
  have key := LoopS_foldI (run := (runD tab noExt (d + 1))) (draw := drawI (runD tab noExt (d + 1))) (live := [0, 1, 5, 12]) (out := [5]) (c := L42x0) (n0 := ([.rows (b0).length 1 ((b0).map Row.cells)] : Heap).length) (keys5) (addRowI l time) (fun (i : Nat) (b : List Row) => b.length ≤ i) (fun (i : Nat) (b : List Row) => [(0, .sl c 4 (l.map Ver.cells)), (1, .int .i64 time), (5, .ref 0 (b).length 0 (b).length false), (12, .int .i64 (i : Nat))]) (fun (i : Nat) (b : List Row) => [.rows (b).length 1 ((b).map Row.cells)]) (fun b => (some (.exit 0, [(5, .ref 0 (b).length 0 (b).length false)], [.rows (b).length 1 ((b).map Row.cells)]) : Out)) (fun b K hb => ?_) (fun (i : Nat) (x : Int) b K hi hx hb => ?_) K hK b0 hb0
  · simp only [Int.natCast_zero] at key
    exact key
  · rw [LoopS_eq]
    simp -implicitDefEqProofs only [go_sem, Nat.reduceBEq, Nat.reduceAdd, Nat.reduceSub, Nat.reduceMul, Nat.reduceLeDiff, Nat.reduceEqDiff, Nat.reduceLT, Int.reduceNeg, Int.reduceAdd, Int.reduceSub, Int.reduceMul, Int.reduceLE, Int.reduceLT, Int.reduceEq, Int.reduceToNat, reduceCtorEq, evL42x0, B42x0, Int.lt_irrefl, keys5_len]
  · obtain ⟨rfl, hi5⟩ := keys_at hx; have hsm : b.length + 1 < 4294967296 := (by simp [keys5] at hi; omega); have hseen := run_seen d c l (i : Int) time hs; cases hq : l.find? (Ver.at (i : Int) time) <;> simp only [hq, Option.isSome_none, Option.isSome_some, Option.getD_none, Option.getD_some, Ver.cells, Row.v] at hseen
    all_goals
      refine ⟨?_, ?_⟩
      · exact addRowI_len hb
      · rw [LoopS_eq]
        simp -implicitDefEqProofs (disch := first | omega | assumption) only [go_sem, Nat.reduceBEq, Nat.reduceAdd, Nat.reduceSub, Nat.reduceMul, Nat.reduceLeDiff, Nat.reduceEqDiff, Nat.reduceLT, Int.reduceNeg, Int.reduceAdd, Int.reduceSub, Int.reduceMul, Int.reduceLE, Int.reduceLT, Int.reduceEq, Int.reduceToNat, reduceCtorEq, evL42x0, B42x0, hi, hx, IntWalk.i64_in, List.map_append, List.foldl_cons, keys5_len, hseen, hsm, hi5, Row.cells, Row.v]
        (simp -implicitDefEqProofs (disch := first | omega | assumption) only [go_sem, Nat.reduceBEq, Nat.reduceAdd, Nat.reduceSub, Nat.reduceMul, Nat.reduceLeDiff, Nat.reduceEqDiff, Nat.reduceLT, Int.reduceNeg, Int.reduceAdd, Int.reduceSub, Int.reduceMul, Int.reduceLE, Int.reduceLT, Int.reduceEq, Int.reduceToNat, reduceCtorEq, addRowI, hq, hseen, Row.cells, Row.v, List.map_append, List.map_cons, List.map_nil, IntWalk.i64_in])
-- find42
theorem own_rowsAt (d : Nat) (c : Bool) (l : List Ver) (time : Int) (hs : l.length < 1099511627776) (hsh : ShortVs l) (hfn : ∀ v ∈ l, v.row.vs.length < 4294967296) : ∃ v hc ids, runD tab noExt (d + 9) 42 [.sl c 4 (l.map Ver.cells), .int .i64 time] [] = some ([v], hc) ∧ OwnF hc (.sub fdValueS) v (.sub ((rowsAtV l time).map rowU)) ids ∧ ids.Nodup := by
  have hv := run_versI d c l hs hsh
  cases hok : versOk l
  · rw [hok] at hv
    have e : rowsAtV l time = [] := by
      rw [rowsAtV_eq]
      simp [keys5, rowV, rowAt, hok]
    rw [e]
    refine ⟨.sl true 1 [], [], [], ?_, own_nil rfl, List.nodup_nil⟩
    rw [runD_eq find42 _ _ _ (by simp)]
    simp -implicitDefEqProofs (disch := omega) only [go_sem, Nat.reduceBEq, Nat.reduceAdd, Nat.reduceSub, Nat.reduceMul, Nat.reduceLeDiff, Nat.reduceEqDiff, Nat.reduceLT, Int.reduceNeg, Int.reduceAdd, Int.reduceSub, Int.reduceMul, Int.reduceLE, Int.reduceLT, Int.reduceEq, Int.reduceToNat, reduceCtorEq, hv]
  · rw [hok] at hv
    obtain ⟨hl, hlen⟩ := loop_rowsAtI (d + 7) c l time hs 1099511627775 (by simp [keys5]) [] (by simp)
    have e : (keys5.foldl (addRowI l time) []).map rowU = (rowsAtV l time).map rowU := by
      rw [addRowI_eq l time hok, rowsAtV_eq]
      rfl
    have hfin : Fine (keys5.foldl (addRowI l time) []) := ⟨by simp [keys5] at hlen ⊢; omega, addRowI_fine l time hfn keys5 [] (fun r hr => by cases hr)⟩
    generalize keys5.foldl (addRowI l time) [] = rs at hl hlen e hfin
    have et : List.take rs.length (rs.map Row.cells) = rs.map Row.cells := List.take_of_length_le (by simp)
    obtain ⟨v1, hc, is0, e1, e2, e3⟩ := own_rowsCopy (d + 5) false rs hfin
    obtain ⟨w, h1, js, k1, k2, k3, k4, k5, k6⟩ := own_call (h := [.rows rs.length 1 (rs.map Row.cells)]) (args := [.ref 0 rs.length 0 rs.length false]) (by simp only [pureDAs, mapO, pureDA, pureD, deepest, List.getElem?_cons_zero, if_true, List.drop_zero, et]) e1 e2 e3
    simp only [List.length_nil, List.map_nil, Int.natCast_zero, List.length_cons] at hl
    rw [e] at k2
    refine ⟨w, h1, js, ?_, k2, k3⟩
    rw [runD_eq find42 _ _ _ (by simp)]
    simp -implicitDefEqProofs (disch := omega) only [go_sem, Nat.reduceBEq, Nat.reduceAdd, Nat.reduceSub, Nat.reduceMul, Nat.reduceLeDiff, Nat.reduceEqDiff, Nat.reduceLT, Int.reduceNeg, Int.reduceAdd, Int.reduceSub, Int.reduceMul, Int.reduceLE, Int.reduceLT, Int.reduceEq, Int.reduceToNat, reduceCtorEq, hv]
    try simp -implicitDefEqProofs only [go_sem, Nat.reduceBEq, Nat.reduceAdd, Nat.reduceSub, Nat.reduceMul, Nat.reduceLeDiff, Nat.reduceEqDiff, Nat.reduceLT, Int.reduceNeg, Int.reduceAdd, Int.reduceSub, Int.reduceMul, Int.reduceLE, Int.reduceLT, Int.reduceEq, Int.reduceToNat, reduceCtorEq] at hl
    rw [hl]
    rcases own_cases k2 with ⟨c', rfl⟩ | ⟨id, st, n, clip, rfl⟩
    · simp -implicitDefEqProofs (disch := first | omega | assumption) only [go_sem, Nat.reduceBEq, Nat.reduceAdd, Nat.reduceSub, Nat.reduceMul, Nat.reduceLeDiff, Nat.reduceEqDiff, Nat.reduceLT, Int.reduceNeg, Int.reduceAdd, Int.reduceSub, Int.reduceMul, Int.reduceLE, Int.reduceLT, Int.reduceEq, Int.reduceToNat, reduceCtorEq, k1, resOk]
    · simp -implicitDefEqProofs (disch := first | omega | assumption) only [go_sem, Nat.reduceBEq, Nat.reduceAdd, Nat.reduceSub, Nat.reduceMul, Nat.reduceLeDiff, Nat.reduceEqDiff, Nat.reduceLT, Int.reduceNeg, Int.reduceAdd, Int.reduceSub, Int.reduceMul, Int.reduceLE, Int.reduceLT, Int.reduceEq, Int.reduceToNat, reduceCtorEq, k1, resOk]
end Go.Proofs.Ytnnjpiepoeknnaa.PE
/- Versions as trees: what their sizes say, that only their values matter. -/
set_option linter.unusedVariables false
set_option linter.unusedSimpArgs false
set_option maxHeartbeats 4000000
namespace Go.Proofs.Ytnnjpiepoeknnaa.PE
open Go.RowKit

def verU (v : Ver) : List U := [.int v.key, .int v.born, .int v.died, .sub (v.row.vs.map valU)]
def Ver.plain (v : Ver) : Ver := ⟨v.key, v.born, v.died, ⟨false, v.row.vs⟩⟩
theorem vals_each {y : List (List U)} {p : V} (h : PurF (.sub fdValue) p (.sub y)) : ∃ (r : Row), p = r.v ∧ y = r.vs.map valU := by
  obtain ⟨cl, ct, rfl, hz⟩ := purS_Value h
  obtain ⟨vs, rfl, rfl⟩ := valsU_of hz
  exact ⟨⟨cl, vs⟩, rfl, rfl⟩
theorem versU_of {l1 : List (List V)} {l2 : List (List U)} (h : Zip2 (PurR fdVersion) l1 l2) : ∃ vs : List Ver, l1 = vs.map Ver.cells ∧ l2 = vs.map verU :=
  typ_of (fun c x hr => by
    obtain ⟨a0, a1, a2, p3, y3, rfl, rfl, g⟩ := purR_Version hr
    obtain ⟨r, rfl, rfl⟩ := vals_each g
    exact ⟨⟨a0, a1, a2, r⟩, rfl, rfl⟩) h
theorem verU_inj {a b : Ver} (h : verU a = verU b) : a.plain = b.plain := by
  simp only [verU, List.cons.injEq, U.int.injEq, U.sub.injEq, and_true] at h
  obtain ⟨h1, h2, h3, h4⟩ := h
  have := map_inj (fun _ _ => valU_inj) h4
  simp only [Ver.plain, h1, h2, h3, this]
theorem plain_of : ∀ {a b : List Ver}, a.map verU = b.map verU → a.map Ver.plain = b.map Ver.plain
  | [], [], _ => rfl
  | x :: a, y :: b, h => by
    simp only [List.map_cons, List.cons.injEq] at h
    rw [List.map_cons, List.map_cons, verU_inj h.1, plain_of h.2]
  | [], _ :: _, h => by simp at h
  | _ :: _, [], h => by simp at h
theorem vers_each {l : List Ver} {q : V} (k : PurF (.sub fdVersion) q (.sub (l.map verU))) : ∃ (c : Bool) (l2 : List Ver), q = .sl c 4 (l2.map Ver.cells) ∧ l2.map verU = l.map verU := by
  obtain ⟨c, _, rfl, y0⟩ := purS_Version k
  obtain ⟨l', rfl, e0⟩ := versU_of y0
  exact ⟨c, l', rfl, e0.symm⟩
theorem ver_pur (v : Ver) : PurR fdVersion v.cells (verU v) := purR_mk_Version (pur_map val_pur _ 3 rfl _)
theorem prevs_plain : ∀ (l : List Ver) (o : Option Ver), prevs (o.map Ver.plain) (l.map Ver.plain) = (prevs o l).map fun p => (p.1.map Ver.plain, p.2.plain)
  | [], _ => rfl
  | v :: r, o => by
    have := prevs_plain r (some v)
    simp only [Option.map_some] at this
    simp only [List.map_cons, prevs, this]
theorem versOk_plain (l : List Ver) : versOk (l.map Ver.plain) = versOk l := by
  have := prevs_plain l none
  simp only [Option.map_none] at this
  unfold versOk
  rw [this, List.all_map, List.length_map]
  congr 2
  funext p
  obtain ⟨o, v⟩ := p
  cases o <;> rfl
theorem find_plain (k t : Int) : ∀ (l : List Ver), (l.map Ver.plain).find? (Ver.at k t) = (l.find? (Ver.at k t)).map Ver.plain
  | [] => rfl
  | v :: r => by
    have e : Ver.at k t v.plain = Ver.at k t v := rfl
    rw [List.map_cons, List.find?_cons, List.find?_cons, e, find_plain k t r]
    cases Ver.at k t v <;> rfl
theorem rowV_plain (l : List Ver) (k t : Int) : rowV (l.map Ver.plain) k t = rowV l k t := by
  unfold rowV rowAt
  rw [versOk_plain, find_plain]
  cases versOk l
  · rfl
  · simp only [if_true, Option.map_map]
    rfl
theorem rowV_vs {a b : List Ver} (h : a.map verU = b.map verU) (k t : Int) : rowV a k t = rowV b k t := by rw [← rowV_plain a, ← rowV_plain b, plain_of h]
theorem versOk_vs {a b : List Ver} (h : a.map verU = b.map verU) : versOk a = versOk b := by rw [← versOk_plain a, ← versOk_plain b, plain_of h]
/-- What a size says of versions. -/
theorem vers_lim {l : List Ver} (L : LenF 1048576 1048576 (.sub fdVersion) (.sub (l.map verU))) : l.length ≤ 1048576 ∧ (∀ v ∈ l, v.row.vs.length ≤ 1048576 ∧ ∀ w ∈ v.row.vs, w.s.size ≤ 1048576) := by
  simp only [LenF, List.length_map] at L
  refine ⟨L.1, fun v hv => ?_⟩
  obtain ⟨i, hi⟩ := List.getElem?_of_mem hv
  have := AllU_at L.2 (map_at verU hi)
  simp only [fdVersion, verU, LenR, LenF, List.length_map, true_and, and_true] at this
  refine ⟨this.1, fun w hw => ?_⟩
  obtain ⟨j, hj⟩ := List.getElem?_of_mem hw
  have := AllU_at this.2 (map_at valU hj)
  simp only [fdValue, valU, LenR, LenF, true_and, and_true] at this
  exact this
theorem vers_lims {a b : List Ver} (e : a.map verU = b.map verU) (L : LenF 1048576 1048576 (.sub fdVersion) (.sub (b.map verU))) : a.length ≤ 1048576 ∧ ShortVs a ∧ (∀ v ∈ a, v.row.vs.length < 4294967296) ∧ (∀ v ∈ a, v.row.vs.length ≤ 1048576 ∧ ∀ w ∈ v.row.vs, w.s.size ≤ 1048576) := by
  rw [← e] at L
  obtain ⟨h1, h2⟩ := vers_lim L
  exact ⟨h1, fun v hv => ⟨by have := (h2 v hv).1; omega, fun w hw => by have := (h2 v hv).2 w hw; omega⟩, fun v hv => by have := (h2 v hv).1; omega, h2⟩
/-- What a key has comes from a version. -/
theorem rowV_mem {l : List Ver} {k t : Int} {vs : List Val} (h : rowV l k t = some vs) : ∃ v ∈ l, v.row.vs = vs := by
  unfold rowV rowAt at h
  split at h
  · obtain ⟨v, hv, rfl⟩ := Option.map_eq_some_iff.1 h
    exact ⟨v, List.mem_of_find?_eq_some hv, rfl⟩
  · cases h
end Go.Proofs.Ytnnjpiepoeknnaa.PE
/- Calls whose results are memory of one's own, and a number beside it. -/
set_option linter.unusedVariables false
set_option linter.unusedSimpArgs false
namespace Go.Proofs.Ytnnjpiepoeknnaa.PE
open Go.RowKit

theorem own_callAS {run : Run} {h : Heap} {f : Nat} {args args' : List V} {cs : List V} {s : V} {hc : Heap} {fs : List Fd} {x : List U} {ids : List Nat} (hp : pureDAs h args = some args') (hr : run f args' [] = some ([.agg cs, s], hc)) (ho : OwnR hc fs cs x ids) (hn : ids.Nodup) (hs : cs.all scalar = false) (hsc : scalar s = true) :
    ∃ cs' h' ids', callX run h 0 f args = some (.tup [.agg cs', s], h') ∧ OwnR h' fs cs' x ids' ∧ ids'.Nodup ∧ (∀ j ∈ ids', h.length ≤ j) ∧ (∀ j, j < h.length → h'[j]? = h[j]?) ∧ h.length ≤ h'.length := by
  have hf := OwnR_fresh fs ho
  refine ⟨cs.map (shC h.length), h ++ movedH h.length hc, ids.map (· + h.length), ?_, OwnR_moved _ ho, ?_, fun j hj => ?_, fun j hj => by rw [List.getElem?_append_left hj], by simp⟩
  · cases s <;> first | (simp only [callX, callO, hp, hr, BackO, List.all_cons, List.all_nil, scalarA, freshA, freshC, shC, hs, hf, Bool.false_eq_true, Bool.false_and, Bool.true_and, Bool.and_self, if_false, if_true, List.map_cons, List.map_nil, oneOf, shA]; done) | cases hsc
  · exact (List.pairwise_map.2 (List.Pairwise.imp (fun {a b} hab => by simp only [ne_eq] at hab ⊢; omega) hn))
  · obtain ⟨i, _, rfl⟩ := List.mem_map.1 hj
    omega
theorem own_callFS {run : Run} {h : Heap} {f : Nat} {args args' : List V} {v s : V} {hc : Heap} {fs : List Fd} {u : U} {ids : List Nat} (hp : pureDAs h args = some args') (hr : run f args' [] = some ([v, s], hc)) (ho : OwnF hc (.sub fs) v u ids) (hn : ids.Nodup) (hsc : scalar s = true) :
    ∃ v' h' ids', callX run h 0 f args = some (.tup [v', s], h') ∧ OwnF h' (.sub fs) v' u ids' ∧ ids'.Nodup ∧ (∀ j ∈ ids', h.length ≤ j) ∧ (∀ j, j < h.length → h'[j]? = h[j]?) ∧ h.length ≤ h'.length := by
  refine ⟨shC h.length v, h ++ movedH h.length hc, ids.map (· + h.length), ?_, OwnF_moved _ ho, ?_, fun j hj => ?_, fun j hj => by rw [List.getElem?_append_left hj], by simp⟩
  · rcases own_cases ho with ⟨c, rfl⟩ | ⟨id, st, n, clip, rfl⟩ <;> cases s <;> first | (simp only [callX, callO, hp, hr, BackO, List.all_cons, List.all_nil, scalarA, scalar, freshA, freshC, isNil, shA, shC, Bool.false_eq_true, Bool.false_and, Bool.true_and, Bool.and_self, Bool.and_true, if_false, if_true, List.map_cons, List.map_nil, oneOf]; done) | cases hsc
  · exact (List.pairwise_map.2 (List.Pairwise.imp (fun {a b} hab => by simp only [ne_eq] at hab ⊢; omega) hn))
  · obtain ⟨i, _, rfl⟩ := List.mem_map.1 hj
    omega
theorem pureDA_sl (h : Heap) (c : Bool) (n : Nat) (xs : List (List V)) : pureDA h (.sl c n xs) = some (.sl c n xs) := rfl
end Go.Proofs.Ytnnjpiepoeknnaa.PE
/- The table at a time: the program's. -/
set_option linter.unusedVariables false
set_option linter.unusedSimpArgs false
set_option maxHeartbeats 4000000
namespace Go.Proofs.Ytnnjpiepoeknnaa.PE
open Go.RowKit

theorem clipkCol (d : Nat) (l : List (List V)) (n : Nat) (hn : n = l.length) : callX (runD tab noExt (d + 1)) [.rows 0 2 l] 2 203 [.ref 0 0 0 n false] = some (.ref 0 0 0 n true, [.rows 0 2 l]) := by
  subst hn
  simp only [callX, callK]
  rw [runD_eq find203 _ _ _ (by simp)]
  simp -implicitDefEqProofs (disch := omega) only [go_sem, Nat.reduceBEq, Nat.reduceAdd, Nat.reduceSub, Nat.reduceMul, Nat.reduceLeDiff, Nat.reduceEqDiff, Nat.reduceLT, Int.reduceNeg, Int.reduceAdd, Int.reduceSub, Int.reduceMul, Int.reduceLE, Int.reduceLT, Int.reduceEq, Int.reduceToNat, reduceCtorEq, List.take_length, Bool.true_or, resOk]
theorem runcCol (d : Nat) (c : Bool) (l : List (List V)) (h0 : 0 < l.length) (hl : l.length < 4294967296) : runD tab noExt (d + 2) 200 [.sl c 2 l] [] = some ([.ref 0 0 0 l.length true], [.rows 0 2 l]) := by
  rw [runD_eq find200 _ _ _ (by simp)]
  match l, h0, hl with
  | [], h0, _ => exact absurd h0 (by decide)
  | x :: r, _, hl =>
    have h0 : ((r.length : Int) + 1 = 0) = False := eq_false (by omega)
    have h1 : r.length + 1 < 4294967296 := by simpa using hl
    have hc := clipkCol d (x :: r) (r.length + 1) (by simp)
    simp -implicitDefEqProofs (disch := omega) only [go_sem, Nat.reduceBEq, Nat.reduceAdd, Nat.reduceSub, Nat.reduceMul, Nat.reduceLeDiff, Nat.reduceEqDiff, Nat.reduceLT, Int.reduceNeg, Int.reduceAdd, Int.reduceSub, Int.reduceMul, Int.reduceLE, Int.reduceLT, Int.reduceEq, Int.reduceToNat, reduceCtorEq, List.length_cons, h0, h1, hc]
theorem runnCol (d : Nat) (c : Bool) : runD tab noExt (d + 2) 200 [.sl c 2 []] [] = some ([.sl true 2 []], []) := by
  rw [runD_eq find200 _ _ _ (by simp)]
  simp -implicitDefEqProofs (disch := omega) only [go_sem, Nat.reduceBEq, Nat.reduceAdd, Nat.reduceSub, Nat.reduceMul, Nat.reduceLeDiff, Nat.reduceEqDiff, Nat.reduceLT, Int.reduceNeg, Int.reduceAdd, Int.reduceSub, Int.reduceMul, Int.reduceLE, Int.reduceLT, Int.reduceEq, Int.reduceToNat, reduceCtorEq]
theorem cloneCol (d : Nat) (c : Bool) (l : List (List V)) (hl : l.length < 4294967296) : retP (runD tab noExt (d + 2)) 200 [.sl c 2 l] = some [.sl true 2 l] := by
  match l, hl with
  | [], _ => rw [retP, runnCol]; rfl
  | x :: r, hl =>
    rw [retP, runcCol d c (x :: r) (by simp) hl]
    simp -implicitDefEqProofs only [go_sem, Nat.reduceBEq, Nat.reduceAdd, Nat.reduceSub, Nat.reduceMul, Nat.reduceLeDiff, Nat.reduceEqDiff, Nat.reduceLT, Int.reduceNeg, Int.reduceAdd, Int.reduceSub, Int.reduceMul, Int.reduceLE, Int.reduceLT, Int.reduceEq, Int.reduceToNat, reduceCtorEq, List.take_length]
theorem clonexCol (d : Nat) (h : Heap) (c : Bool) (l : List (List V)) (h0 : 0 < l.length) (hl : l.length < 4294967296) (hf : l.all (fun x => x.all freshC) = true) : callX (runD tab noExt (d + 2)) h 0 200 [.sl c 2 l] = some (.ref h.length 0 0 l.length true, h ++ [.rows 0 2 l]) := by
  simp only [callX, callO, pureDAs, mapO, pureDA, pureD, deepest, runcCol d c l h0 hl, BackO, List.all_cons, List.all_nil, scalarA, scalar, freshA, freshC, Bool.false_eq_true, Bool.false_and, Bool.and_self, if_false, if_true, List.map_cons, List.map_nil, oneOf, shA, shC, Nat.zero_add, movedH, clean, hf, shB]
theorem clonenCol (d : Nat) (h : Heap) (c : Bool) : callX (runD tab noExt (d + 2)) h 0 200 [.sl c 2 []] = some (.sl true 2 [], h) := by
  simp only [callX, callO, pureDAs, mapO, pureDA, pureD, deepest, runnCol d c, BackO, List.all_cons, List.all_nil, scalarA, scalar, freshA, freshC, isNil, Bool.false_eq_true, Bool.false_and, Bool.and_self, if_false, if_true, List.map_cons, List.map_nil, oneOf, shA, shC, movedH, List.append_nil]

theorem col_own (h : Heap) (v : Col) : OwnR h fdColumn v.cells (colU v) [] := ownR_mk_Column h v.kind v.empty
theorem own_cloneCol (d : Nat) (c : Bool) (cs : List Col) (hl : cs.length < 4294967296) : ∃ v hc ids, runD tab noExt (d + 2) 200 [.sl c 2 (cs.map Col.cells)] [] = some ([v], hc) ∧ OwnF hc (.sub fdColumn) v (.sub (cs.map colU)) ids ∧ ids.Nodup := by
  match cs, hl with
  | [], _ => exact ⟨_, _, [], runnCol d c, own_nil rfl, List.nodup_nil⟩
  | x :: r, hl => exact ⟨_, _, [0], runcCol d c ((x :: r).map Col.cells) (by simp) (by simpa using hl), own_row rfl (x :: r) (by simp) rfl (col_own _), by simp⟩
-- find178
theorem own_tableCopy (d : Nat) (c c' : Bool) (cs : List Col) (rs : List Row) (hl : cs.length < 4294967296) (hf : Fine rs) : ∃ cells hc ids, runD tab noExt (d + 4) 178 [.agg [.sl c 2 (cs.map Col.cells), .sl c' 1 (rs.map Row.cells)]] [] = some ([.agg cells], hc) ∧ OwnR hc fdTable cells [.sub (cs.map colU), .sub (rs.map rowU)] ids ∧ ids.Nodup ∧ cells.all scalar = false := by
  obtain ⟨v0, c0, i0, r0, o0, n0⟩ := own_cloneCol (d + 1) c cs hl
  obtain ⟨v1, c1, i1, r1, o1, n1⟩ := own_rowsCopy d c' rs hf
  obtain ⟨w0, h0, j0, e0, a0, m0, b0, f0, l0⟩ := own_call (h := [.box [.sl c 2 (cs.map Col.cells), .sl c' 1 (rs.map Row.cells)], .box [.sl true 2 [], .sl true 1 []]]) (args := [.sl c 2 (cs.map Col.cells)]) (by simp only [pureDAs, mapO, pureDA, pureD]) r0 o0 n0
  obtain ⟨w1, h1, j1, e1, a1, m1, b1, f1, l1⟩ := own_call (h := h0) (args := [.sl c' 1 (rs.map Row.cells)]) (by simp only [pureDAs, mapO, pureDA, pureD]) r1 o1 n1
  have q0 : h0[0]? = some (.box [.sl c 2 (cs.map Col.cells), .sl c' 1 (rs.map Row.cells)]) := f0 0 (by simp)
  have q1 : h0[1]? = some (.box [.sl true 2 [], .sl true 1 []]) := f0 1 (by simp)
  have z0 : 1 < h0.length := (List.getElem?_eq_some_iff.1 q1).1
  have p1 : h1[1]? = some (.box [.sl true 2 [], .sl true 1 []]) := (f1 1 z0).trans q1
  have p0 : h1[0]? = some (.box [.sl c 2 (cs.map Col.cells), .sl c' 1 (rs.map Row.cells)]) := (f1 0 (by omega)).trans q0
  have z1 : 1 < h1.length := (List.getElem?_eq_some_iff.1 p1).1
  have L : ∀ (b : Blk) (j : Nat), 2 ≤ j → (h1.set 1 b)[j]? = h1[j]? := fun b j hj => by rw [List.getElem?_set_ne (by omega)]
  have hw0 := own_cases a0
  have hw1 := own_cases a1
  simp only [List.length_cons, List.length_nil] at b0 l0
  refine ⟨[w0, w1], h1.set 1 (.box [w0, w1]), j0 ++ j1, ?_, ownR_mk_Table (OwnF_frame _ a0 (fun j hj => ?_)) (OwnF_frame _ a1 (fun j hj => ?_)), ?_, ?_⟩
  · rw [runD_eq find178 _ _ _ (by simp)]
    rcases hw0 with ⟨k, rfl⟩ | ⟨k, s, n, t, rfl⟩ <;> rcases hw1 with ⟨k1, rfl⟩ | ⟨k1, s1, n1, t1, rfl⟩ <;> simp -implicitDefEqProofs (disch := first | omega | (simp only [List.length_set]; omega)) only [go_sem, Nat.reduceBEq, Nat.reduceAdd, Nat.reduceSub, Nat.reduceMul, Nat.reduceLeDiff, Nat.reduceEqDiff, Nat.reduceLT, Int.reduceNeg, Int.reduceAdd, Int.reduceSub, Int.reduceMul, Int.reduceLE, Int.reduceLT, Int.reduceEq, Int.reduceToNat, reduceCtorEq, evC_draw, evD178x0, E178x0, e0, e1, q0, q1, p0, p1, z0, z1, List.getElem?_set_self, List.getElem?_set_ne, List.length_set, okN]
  · rw [L _ _ (by have := b0 j hj; omega), f1 j (OwnF_lt _ a0 j hj)]
  · rw [L _ _ (by have := b1 j hj; omega)]
  · refine List.nodup_append.2 ⟨m0, m1, fun x hx y hy => ?_⟩
    have g1 := OwnF_lt _ a0 x hx
    have g2 := b1 y hy
    omega
  · rcases hw0 with ⟨q, rfl⟩ | ⟨q, s, t, u, rfl⟩ <;> simp [scalar]
-- find131
theorem own_tableOf (d : Nat) (c c' : Bool) (cs : List Col) (rs : List Row) (hl : cs.length < 4294967296) (hf : Fine rs) (hsh : Short rs) (h6 : rs.length ≤ 6) : ∃ cells hc ids, runD tab noExt (d + 17) 131 [.sl c 2 (cs.map Col.cells), .sl c' 1 (rs.map Row.cells)] [] = some ([.agg cells, .bool (rowsOk cs rs)], hc) ∧ OwnR hc fdTable cells [.sub (if rowsOk cs rs then cs.map colU else []), .sub (if rowsOk cs rs then rs.map rowU else [])] ids ∧ ids.Nodup ∧ cells.all scalar = false := by
  have ht := run_tablesOkI d true [⟨c, cs, c', rs⟩] (by simp) (fun t ht => by rw [List.mem_singleton.1 ht]; exact ⟨by simp only; omega, by simp only; have := hf.1; omega, hsh⟩)
  have e : tablesOk [⟨c, cs, c', rs⟩] = rowsOk cs rs := by
    have h6' : ¬ (6 : Int) < rs.length := by omega
    simp [tablesOk, tblOk, h6']
  rw [e] at ht
  simp only [List.map_cons, List.map_nil, Tbl.cells] at ht
  cases hok : rowsOk cs rs
  · rw [hok] at ht
    refine ⟨[.sl true 2 [], .sl true 1 []], [.box [.sl true 2 [], .sl true 1 []], .box [.sl c 2 (cs.map Col.cells), .sl c' 1 (rs.map Row.cells)]], [], ?_, ownR_mk_Table (own_nil rfl) (own_nil rfl), List.nodup_nil, rfl⟩
    rw [runD_eq find131 _ _ _ (by simp)]
    simp -implicitDefEqProofs (disch := omega) only [go_sem, Nat.reduceBEq, Nat.reduceAdd, Nat.reduceSub, Nat.reduceMul, Nat.reduceLeDiff, Nat.reduceEqDiff, Nat.reduceLT, Int.reduceNeg, Int.reduceAdd, Int.reduceSub, Int.reduceMul, Int.reduceLE, Int.reduceLT, Int.reduceEq, Int.reduceToNat, reduceCtorEq, ht]
  · rw [hok] at ht
    obtain ⟨v0, c0, i0, r0, o0, n0, s0⟩ := own_tableCopy (d + 12) c c' cs rs hl hf
    obtain ⟨cs', h', j0, e0, a0, m0, b0, f0, l0⟩ := own_callA (h := [.box [.sl true 2 [], .sl true 1 []], .box [.sl c 2 (cs.map Col.cells), .sl c' 1 (rs.map Row.cells)]]) (args := [.agg [.sl c 2 (cs.map Col.cells), .sl c' 1 (rs.map Row.cells)]]) (by simp only [pureDAs, mapO, pureDA, pureD, deepest, Option.map_some]) r0 o0 n0 s0
    have q0 : h'[0]? = some (.box [.sl true 2 [], .sl true 1 []]) := f0 0 (by simp)
    have z0 : 0 < h'.length := (List.getElem?_eq_some_iff.1 q0).1
    simp only [List.length_cons, List.length_nil] at b0
    obtain ⟨p0, y0, p1, y1, i0', i1', rfl, e1, rfl, g0, g1⟩ := ownR_Table a0
    have hw0 := own_cases g0
    have hw1 := own_cases g1
    refine ⟨[p0, p1], h'.set 0 (.box [p0, p1]), i0' ++ i1', ?_, OwnR_frame _ a0 (fun j hj => ?_), m0, ?_⟩
    · rw [runD_eq find131 _ _ _ (by simp)]
      rcases hw0 with ⟨k, rfl⟩ | ⟨k, s, n, t, rfl⟩ <;> rcases hw1 with ⟨k1, rfl⟩ | ⟨k1, s1, n1, t1, rfl⟩ <;> simp -implicitDefEqProofs (disch := omega) only [go_sem, Nat.reduceBEq, Nat.reduceAdd, Nat.reduceSub, Nat.reduceMul, Nat.reduceLeDiff, Nat.reduceEqDiff, Nat.reduceLT, Int.reduceNeg, Int.reduceAdd, Int.reduceSub, Int.reduceMul, Int.reduceLE, Int.reduceLT, Int.reduceEq, Int.reduceToNat, reduceCtorEq, ht, e0, q0, z0, List.getElem?_set_self, okN]
    · rw [List.getElem?_set_ne (by have := b0 j hj; omega)]
    · rcases hw0 with ⟨q, rfl⟩ | ⟨q, s, t, u, rfl⟩ <;> simp [scalar]
def tabOk (cs : List Col) (l : List Ver) (time : Int) : Bool := versOk l && rowsOk cs (rowsAtV l time)
theorem rowsAtV_len (l : List Ver) (time : Int) : (rowsAtV l time).length ≤ 5 := by
  rw [rowsAtV_eq, List.length_map]
  exact Nat.le_trans (List.length_filterMap_le _ _) (by simp [keys5])
-- find62
theorem own_tableAt (d : Nat) (c c' : Bool) (cs : List Col) (l : List Ver) (time : Int) (hl : cs.length < 4294967296) (hs : l.length < 1099511627776) (hsh : ShortVs l) (hfn : ∀ v ∈ l, v.row.vs.length < 4294967296) :
    ∃ cells hc ids, runD tab noExt (d + 18) 62 [.sl c 2 (cs.map Col.cells), .sl c' 4 (l.map Ver.cells), .int .i64 time] [] = some ([.agg cells, .bool (tabOk cs l time)], hc) ∧ OwnR hc fdTable cells [.sub (if tabOk cs l time then cs.map colU else []), .sub (if tabOk cs l time then (rowsAtV l time).map rowU else [])] ids ∧ ids.Nodup ∧ cells.all scalar = false := by
  have hv := run_versI (d + 9) c' l hs hsh
  unfold tabOk
  cases hok : versOk l
  · rw [hok] at hv
    refine ⟨[.sl true 2 [], .sl true 1 []], [.box [.sl true 2 [], .sl true 1 []]], [], ?_, ownR_mk_Table (own_nil rfl) (own_nil rfl), List.nodup_nil, rfl⟩
    rw [runD_eq find62 _ _ _ (by simp)]
    simp -implicitDefEqProofs (disch := omega) only [go_sem, Nat.reduceBEq, Nat.reduceAdd, Nat.reduceSub, Nat.reduceMul, Nat.reduceLeDiff, Nat.reduceEqDiff, Nat.reduceLT, Int.reduceNeg, Int.reduceAdd, Int.reduceSub, Int.reduceMul, Int.reduceLE, Int.reduceLT, Int.reduceEq, Int.reduceToNat, reduceCtorEq, hv]
  · rw [hok] at hv
    obtain ⟨v1, hc1, is1, r1, o1, n1⟩ := own_rowsAt (d + 8) c' l time hs hsh hfn
    obtain ⟨w1, h1, j1, e1, a1, m1, b1, f1, l1⟩ := own_call (h := [.box [.sl true 2 [], .sl true 1 []]]) (args := [.sl c' 4 (l.map Ver.cells), .int .i64 time]) (by simp only [pureDAs, mapO, pureDA, pureD]) r1 o1 n1
    obtain ⟨q, xq, yq⟩ := pureDA_own a1 (by decide)
    obtain ⟨c2, rs, rfl, hrs⟩ := rows_each yq
    have hlen : rs.length ≤ 5 := by
      have := congrArg List.length hrs
      simp only [List.length_map] at this
      have := rowsAtV_len l time
      omega
    have hmem : ∀ r ∈ rs, ∃ v ∈ l, v.row.vs = r.vs := by
      intro r hr
      have hr2 : rowU r ∈ (rowsAtV l time).map rowU := by rw [← hrs]; exact List.mem_map_of_mem hr
      obtain ⟨r2, hr2, e⟩ := List.mem_map.1 hr2
      rw [rowsAtV_eq] at hr2
      obtain ⟨vs, hvs, rfl⟩ := List.mem_map.1 hr2
      obtain ⟨k, _, hk⟩ := List.mem_filterMap.1 hvs
      obtain ⟨v, hv, e2⟩ := rowV_mem hk
      refine ⟨v, hv, ?_⟩
      rw [e2]
      exact vsU_inj (by simpa [rowU] using e)
    have hfin : Fine rs := ⟨by omega, fun r hr => by obtain ⟨v, hv, e⟩ := hmem r hr; rw [← e]; exact hfn v hv⟩
    have hsho : Short rs := fun r hr => by obtain ⟨v, hv, e⟩ := hmem r hr; rw [← e]; exact hsh v hv
    have erows : rowsOk cs rs = rowsOk cs (rowsAtV l time) := rowsOk_vs (vss_of hrs)
    obtain ⟨v2, hc2, is2, r2, o2, n2, s2⟩ := own_tableOf d c c2 cs rs hl hfin hsho (by omega)
    rw [hrs, erows] at o2
    rw [erows] at r2
    obtain ⟨cs', h2, j2, e2, a2, m2, b2, f2, l2⟩ := own_callAS (h := h1) (args := [.sl c 2 (cs.map Col.cells), w1]) (by simp only [pureDAs, mapO, xq, pureDA_sl]) r2 o2 n2 s2 rfl
    have q0 : h1[0]? = some (.box [.sl true 2 [], .sl true 1 []]) := f1 0 (by simp)
    have z1 : 0 < h1.length := (List.getElem?_eq_some_iff.1 q0).1
    have q2 : h2[0]? = some (.box [.sl true 2 [], .sl true 1 []]) := (f2 0 z1).trans q0
    have z2 : 0 < h2.length := (List.getElem?_eq_some_iff.1 q2).1
    obtain ⟨p0, y0, p1, y1, i0', i1', rfl, ey, rfl, g0, g1⟩ := ownR_Table a2
    have hw0 := own_cases g0
    have hw1 := own_cases g1
    refine ⟨[p0, p1], h2.set 0 (.box [p0, p1]), i0' ++ i1', ?_, OwnR_frame _ a2 (fun j hj => ?_), m2, ?_⟩
    · rw [runD_eq find62 _ _ _ (by simp)]
      rcases own_cases a1 with ⟨ka, rfl⟩ | ⟨ka, sa, na, ta, rfl⟩ <;> rcases hw0 with ⟨k, rfl⟩ | ⟨k, s, n, t, rfl⟩ <;> rcases hw1 with ⟨k1, rfl⟩ | ⟨k1, s1, n1, t1, rfl⟩ <;> simp -implicitDefEqProofs (disch := omega) only [go_sem, Nat.reduceBEq, Nat.reduceAdd, Nat.reduceSub, Nat.reduceMul, Nat.reduceLeDiff, Nat.reduceEqDiff, Nat.reduceLT, Int.reduceNeg, Int.reduceAdd, Int.reduceSub, Int.reduceMul, Int.reduceLE, Int.reduceLT, Int.reduceEq, Int.reduceToNat, reduceCtorEq, hv, e1, e2, q2, z2, List.getElem?_set_self, okN]
    · rw [List.getElem?_set_ne (by have := b2 j hj; omega)]
    · rcases hw0 with ⟨q, rfl⟩ | ⟨q, s, t, u, rfl⟩ <;> simp [scalar]
end Go.Proofs.Ytnnjpiepoeknnaa.PE
/- The table at a time: the reference's; the core of the exact statement. -/
set_option linter.unusedVariables false
set_option linter.unusedSimpArgs false
set_option maxHeartbeats 4000000
namespace Go.Proofs.Ytnnjpiepoeknnaa.PE
open Go.RowKit

-- find63
theorem run_tableAtS (d : Nat) (c c' : Bool) (cs : List Col) (l : List Ver) (time : Int) (hl : cs.length < 4294967296) (hs : l.length < 1099511627776) (hsh : ShortVs l) (hfn : ∀ v ∈ l, v.row.vs.length < 4294967296) :
    ∃ a b, retP (runD tab noExt (d + 8)) 63 [.sl c 2 (cs.map Col.cells), .sl c' 4 (l.map Ver.cells), .int .i64 time] = some [.agg [.sl a 2 ((if tabOk cs l time then cs else []).map Col.cells), .sl b 1 ((if tabOk cs l time then rowsAtV l time else []).map Row.cells)], .bool (tabOk cs l time)] := by
  have hv := run_versS (d + 2) c' l hs hsh
  have hr := run_rowsAtS d c' l time hs hsh hfn
  have hlen := rowsAtV_len l time
  have hmem : ∀ r ∈ rowsAtV l time, ∃ v ∈ l, v.row.vs = r.vs := by
    intro r hr
    rw [rowsAtV_eq] at hr
    obtain ⟨vs, hvs, rfl⟩ := List.mem_map.1 hr
    obtain ⟨k, _, hk⟩ := List.mem_filterMap.1 hvs
    exact rowV_mem hk
  have hsho : Short (rowsAtV l time) := fun r hr => by obtain ⟨v, hv, e⟩ := hmem r hr; rw [← e]; exact hsh v hv
  have hro := run_rowsOk (d + 2) c false cs (rowsAtV l time) (by omega) (by omega) hsho
  have hsm : 0 + cs.length < 4294967296 := by omega
  unfold tabOk
  rw [retP, runD_eq find63 _ _ _ (by simp)]
  have et : List.take cs.length (cs.map Col.cells) = cs.map Col.cells := List.take_of_length_le (by simp)
  cases hok : versOk l
  · rw [hok] at hv
    refine ⟨true, true, ?_⟩
    simp -implicitDefEqProofs (disch := omega) only [go_sem, Nat.reduceBEq, Nat.reduceAdd, Nat.reduceSub, Nat.reduceMul, Nat.reduceLeDiff, Nat.reduceEqDiff, Nat.reduceLT, Int.reduceNeg, Int.reduceAdd, Int.reduceSub, Int.reduceMul, Int.reduceLE, Int.reduceLT, Int.reduceEq, Int.reduceToNat, reduceCtorEq, hv, hr, hsm, hl]
  · rw [hok] at hv
    cases hk : rowsOk cs (rowsAtV l time)
    · rw [hk] at hro
      refine ⟨true, true, ?_⟩
      simp -implicitDefEqProofs (disch := omega) only [go_sem, Nat.reduceBEq, Nat.reduceAdd, Nat.reduceSub, Nat.reduceMul, Nat.reduceLeDiff, Nat.reduceEqDiff, Nat.reduceLT, Int.reduceNeg, Int.reduceAdd, Int.reduceSub, Int.reduceMul, Int.reduceLE, Int.reduceLT, Int.reduceEq, Int.reduceToNat, reduceCtorEq, hv, hr, hro, hsm, hl]
    · rw [hk] at hro
      refine ⟨false, false, ?_⟩
      simp -implicitDefEqProofs (disch := omega) only [go_sem, Nat.reduceBEq, Nat.reduceAdd, Nat.reduceSub, Nat.reduceMul, Nat.reduceLeDiff, Nat.reduceEqDiff, Nat.reduceLT, Int.reduceNeg, Int.reduceAdd, Int.reduceSub, Int.reduceMul, Int.reduceLE, Int.reduceLT, Int.reduceEq, Int.reduceToNat, reduceCtorEq, hv, hr, hro, hsm, hl, et]
end Go.Proofs.Ytnnjpiepoeknnaa.PE
/- Sizes of trees of values, rows, columns. -/
set_option linter.unusedVariables false
set_option linter.unusedSimpArgs false
namespace Go.Proofs.Ytnnjpiepoeknnaa.PE
open Go.RowKit

theorem sum_all {c : List U → Nat} {n : Nat} : ∀ {xs : List (List U)}, (∀ x ∈ xs, c x ≤ n) → sumU c xs ≤ n * xs.length
  | [], _ => by simp [sumU]
  | x :: xs, h => by
    have := sum_all (fun y hy => h y (List.mem_cons_of_mem _ hy)) (xs := xs)
    have := h x List.mem_cons_self
    simp only [sumU, List.length_cons, Nat.mul_add, Nat.mul_one]
    omega
theorem all_of {P : List U → Prop} : ∀ {xs : List (List U)}, (∀ x ∈ xs, P x) → AllU P xs
  | [], _ => trivial
  | x :: xs, h => ⟨h x List.mem_cons_self, all_of (fun y hy => h y (List.mem_cons_of_mem _ hy))⟩
theorem vals_len {n m : Nat} {vs : List Val} (h1 : vs.length ≤ n) (h2 : ∀ v ∈ vs, v.s.size ≤ m) : LenF n m (.sub fdValue) (.sub (vs.map valU)) := by
  simp only [LenF, List.length_map]
  refine ⟨h1, all_of (fun x hx => ?_)⟩
  obtain ⟨v, hv, rfl⟩ := List.mem_map.1 hx
  simp only [fdValue, valU, LenR, LenF, true_and, and_true]
  exact h2 v hv
theorem vals_cnt (vs : List Val) : cntF (.sub fdValue) (.sub (vs.map valU)) = 3 * vs.length := by
  simp only [cntF]
  induction vs with
  | nil => rfl
  | cons v vs ih =>
    have e : cntR fdValue (valU v) = 3 := rfl
    simp only [List.map_cons, sumU, e, ih, List.length_cons]
    omega
theorem rows_big {rs : List Row} (h1 : rs.length ≤ 1048576) (h2 : ∀ r ∈ rs, r.vs.length ≤ 1048576 ∧ ∀ w ∈ r.vs, w.s.size ≤ 1048576) : LenF big big (.sub fdValueS) (.sub (rs.map rowU)) := by
  simp only [LenF, List.length_map]
  refine ⟨by unfold big; omega, all_of (fun x hx => ?_)⟩
  obtain ⟨r, hr, rfl⟩ := List.mem_map.1 hx
  have := LenF_mono (n' := big) (m' := big) (by decide) (by decide) _ (vals_len (h2 r hr).1 (h2 r hr).2)
  simp only [fdValueS, rowU, vsU, LenR]
  exact ⟨this, trivial⟩
theorem rows_cnt {rs : List Row} {n : Nat} (h1 : rs.length ≤ n) (h2 : ∀ r ∈ rs, r.vs.length ≤ 1048576) : cntF (.sub fdValueS) (.sub (rs.map rowU)) ≤ 4000000 * n := by
  have := sum_all (c := cntR fdValueS) (n := 4000000) (xs := rs.map rowU) (fun x hx => by
    obtain ⟨r, hr, rfl⟩ := List.mem_map.1 hx
    have e : cntR fdValueS (rowU r) = cntF (.sub fdValue) (.sub (r.vs.map valU)) := by simp only [fdValueS, rowU, vsU, cntR]; omega
    have := h2 r hr
    rw [e, vals_cnt]
    omega)
  rw [List.length_map] at this
  simp only [cntF]
  have := Nat.mul_le_mul_left 4000000 h1
  omega
theorem cols_cnt (cs : List Col) : cntF (.sub fdColumn) (.sub (cs.map colU)) = 2 * cs.length := by
  simp only [cntF]
  induction cs with
  | nil => rfl
  | cons v vs ih =>
    have e : cntR fdColumn (colU v) = 2 := rfl
    simp only [List.map_cons, sumU, e, ih, List.length_cons]
    omega
end Go.Proofs.Ytnnjpiepoeknnaa.PE
/- The table at a time: what both functions come to, of trees. -/
set_option linter.unusedVariables false
set_option linter.unusedSimpArgs false
set_option maxHeartbeats 4000000
namespace Go.Proofs.Ytnnjpiepoeknnaa.PE
open Go.RowKit

theorem tabOk_vs {cs : List Col} {a b : List Ver} (h : a.map verU = b.map verU) (t : Int) : tabOk cs a t = tabOk cs b t ∧ rowsAtV a t = rowsAtV b t := by
  have e : rowsAtV a t = rowsAtV b t := by rw [rowsAtV_eq, rowsAtV_eq]; simp only [rowV_vs h]
  exact ⟨by unfold tabOk; rw [versOk_vs h, e], e⟩
theorem core_TableAt {x0 : List (List U)} (h0 : ∃ p, PurF (.sub fdColumn) p (.sub x0)) (L0 : LenF 1048576 1048576 (.sub fdColumn) (.sub x0)) {x1 : List (List U)} (h1 : ∃ p, PurF (.sub fdVersion) p (.sub x1)) (L1 : LenF 1048576 1048576 (.sub fdVersion) (.sub x1)) (n2 : Int) (i2 : -9223372036854775808 ≤ n2 ∧ n2 ≤ 9223372036854775807) :
    ∃ u0 u1 b, LenR big big fdTable [.sub u0, .sub u1] ∧ (cntR fdTable [.sub u0, .sub u1] : Int) ≤ 2305843009213693952 ∧
      (∀ {q0 q1 : V}, PurF (.sub fdColumn) q0 (.sub x0) → PurF (.sub fdVersion) q1 (.sub x1) → ∃ w0 w1, retP (runD tab noExt 60) 63 [q0, q1, .int .i64 n2] = some [.agg [w0, w1], .bool b] ∧ PurF (.sub fdColumn) w0 (.sub u0) ∧ PurF (.sub fdValueS) w1 (.sub u1)) ∧
      (∀ {q0 q1 : V}, PurF (.sub fdColumn) q0 (.sub x0) → PurF (.sub fdVersion) q1 (.sub x1) → ∃ cells hc ids, runD tab noExt 60 62 [q0, q1, .int .i64 n2] [] = some ([.agg cells, .bool b], hc) ∧ OwnR hc fdTable cells [.sub u0, .sub u1] ids ∧ ids.Nodup ∧ cells.all scalar = false) := by
  obtain ⟨p0, g0⟩ := h0
  obtain ⟨p1, g1⟩ := h1
  obtain ⟨_, _, _, z0⟩ := purS_Column g0
  obtain ⟨_, _, _, z1⟩ := purS_Version g1
  obtain ⟨cs, rfl, rfl⟩ := colsU_of z0
  obtain ⟨l, rfl, rfl⟩ := versU_of z1
  obtain ⟨v1, v2⟩ := vers_lim L1
  have l0 : cs.length ≤ 1048576 := by simp only [LenF, List.length_map] at L0; exact L0.1
  have hlen := rowsAtV_len l n2
  have hmem : ∀ r ∈ rowsAtV l n2, r.vs.length ≤ 1048576 ∧ ∀ w ∈ r.vs, w.s.size ≤ 1048576 := by
    intro r hr
    rw [rowsAtV_eq] at hr
    obtain ⟨vs, hvs, rfl⟩ := List.mem_map.1 hr
    obtain ⟨k, _, hk⟩ := List.mem_filterMap.1 hvs
    obtain ⟨v, hv, e⟩ := rowV_mem hk
    simp only
    rw [← e]
    exact v2 v hv
  refine ⟨if tabOk cs l n2 then cs.map colU else [], if tabOk cs l n2 then (rowsAtV l n2).map rowU else [], tabOk cs l n2, ?_, ?_, fun k0 k1 => ?_, fun k0 k1 => ?_⟩
  · simp only [fdTable, LenR, and_true]
    cases tabOk cs l n2
    · simp [LenF, AllU]
    · exact ⟨LenF_mono (by decide) (by decide) _ L0, rows_big (by omega) hmem⟩
  · simp only [fdTable, cntR]
    have c1 := cols_cnt cs
    have c2 := rows_cnt (n := 5) hlen (fun r hr => (hmem r hr).1)
    cases tabOk cs l n2
    · simp [cntF, sumU]
    · simp only [if_true]
      omega
  · obtain ⟨c, rfl⟩ := cols_each k0
    obtain ⟨c', l2, rfl, f⟩ := vers_each k1
    obtain ⟨s1, s2, s3, _⟩ := vers_lims f L1
    obtain ⟨t1, t2⟩ := tabOk_vs (cs := cs) f n2
    obtain ⟨a, b, e⟩ := run_tableAtS 52 c c' cs l2 n2 (by omega) (by omega) s2 s3
    rw [t1, t2] at e
    refine ⟨_, _, e, ?_, ?_⟩
    · have := pur_map col_pur a 2 rfl (if tabOk cs l n2 = true then cs else [])
      rw [apply_ite (List.map colU)] at this
      exact this
    · have := pur_map row_pur b 1 rfl (if tabOk cs l n2 = true then rowsAtV l n2 else [])
      revert this
      cases tabOk cs l n2 <;> exact fun h => h
  · obtain ⟨c, rfl⟩ := cols_each k0
    obtain ⟨c', l2, rfl, f⟩ := vers_each k1
    obtain ⟨s1, s2, s3, _⟩ := vers_lims f L1
    obtain ⟨t1, t2⟩ := tabOk_vs (cs := cs) f n2
    have := own_tableAt 42 c c' cs l2 n2 (by omega) (by omega) s2 s3
    rw [t1, t2] at this
    exact this
end Go.Proofs.Ytnnjpiepoeknnaa.PE
/- Steps of exact statements of structs. -/
set_option linter.unusedVariables false
set_option linter.unusedSimpArgs false
namespace Go.Proofs.Ytnnjpiepoeknnaa.PE
open Go.RowKit

theorem pureDA_of {h : Heap} {fs : List Fd} {v q : V} {u : U} {ids : List Nat} (ho : OwnF h (.sub fs) v u ids) (e : pureD h 6 v = some q) : pureDA h v = some q := by
  rcases own_cases ho with ⟨c, rfl⟩ | ⟨id, st, n, clip, rfl⟩ <;> exact e
theorem pureDA_agg (h : Heap) (cs : List V) : pureDA h (.agg cs) = (mapO (pureD h 6) cs).map .agg := rfl
theorem pureD_intv (h : Heap) (n : Nat) (k : IntKind) (m : Int) : pureD h n (.int k m) = some (.int k m) := by cases n <;> rfl
theorem pureD_boolv (h : Heap) (n : Nat) (b : Bool) : pureD h n (.bool b) = some (.bool b) := by cases n <;> rfl
theorem pureD_strv (h : Heap) (n : Nat) (b : ByteArray) : pureD h n (.str b) = some (.str b) := by cases n <;> rfl
end Go.Proofs.Ytnnjpiepoeknnaa.PE
/- The exact statement of FnExactTableAt. -/
set_option linter.unusedVariables false
set_option linter.unusedSimpArgs false
set_option maxHeartbeats 8000000
namespace Go.Proofs.Ytnnjpiepoeknnaa.PE
open Go.RowKit

-- find13
theorem law_FnExactTableAt {p0 : V} {x0 : List (List U)} {p1 : V} {x1 : List (List U)} (n2 : Int) (g0 : PurF (.sub fdColumn) p0 (.sub x0)) (B0 : LenF 9223372036854775807 9223372036854775807 (.sub fdColumn) (.sub x0)) (g1 : PurF (.sub fdVersion) p1 (.sub x1)) (B1 : LenF 9223372036854775807 9223372036854775807 (.sub fdVersion) (.sub x1)) (i2 : -9223372036854775808 ≤ n2 ∧ n2 ≤ 9223372036854775807) : ∃ d h1, runD tab noExt d 13 [p0, p1, .int .i64 n2] [] = some ([.bool true], h1) := by
  refine ⟨61, ?_⟩
  rw [runD_eq find13 _ _ _ (by simp)]
  obtain ⟨cl0, ct0, rfl, hz0⟩ := purS_Column g0
  have hl0 := Zip2_len hz0
  obtain ⟨cl1, ct1, rfl, hz1⟩ := purS_Version g1
  have hl1 := Zip2_len hz1
  have z0 := run_szColumnS 59 (1048576) g0 B0 (by omega) (by omega)
  have y0 := szF_spec (N := 1048576) (.sub fdColumn) (.sub x0) (1048576) (by decide) (by omega)
  generalize szF (.sub fdColumn) (.sub x0) (1048576) = l0 at z0 y0
  by_cases q0 : l0 < 0
  · simp -implicitDefEqProofs (disch := omega) only [go_sem, Nat.reduceBEq, Nat.reduceAdd, Nat.reduceSub, Nat.reduceMul, Nat.reduceLeDiff, Nat.reduceEqDiff, Nat.reduceLT, Int.reduceNeg, Int.reduceAdd, Int.reduceSub, Int.reduceMul, Int.reduceLE, Int.reduceLT, Int.reduceEq, Int.reduceToNat, reduceCtorEq, z0, q0]
    exact ⟨_, rfl⟩
  obtain ⟨y0a, L0, y0c⟩ := y0 (by omega) (by omega)
  have z1 := run_szVersionS 56 (l0) g1 B1 (by omega) (by omega)
  have y1 := szF_spec (N := 1048576) (.sub fdVersion) (.sub x1) (l0) (by decide) (by omega)
  generalize szF (.sub fdVersion) (.sub x1) (l0) = l1 at z1 y1
  by_cases q1 : l1 < 0
  · simp -implicitDefEqProofs (disch := omega) only [go_sem, Nat.reduceBEq, Nat.reduceAdd, Nat.reduceSub, Nat.reduceMul, Nat.reduceLeDiff, Nat.reduceEqDiff, Nat.reduceLT, Int.reduceNeg, Int.reduceAdd, Int.reduceSub, Int.reduceMul, Int.reduceLE, Int.reduceLT, Int.reduceEq, Int.reduceToNat, reduceCtorEq, z0, q0, z1, q1]
    exact ⟨_, rfl⟩
  obtain ⟨y1a, L1, y1c⟩ := y1 (by omega) (by omega)
  have M0 := LenF_mono (n' := big) (m' := big) (by decide) (by decide) _ L0
  have P0 : x0.length ≤ 1048576 ∧ AllU (LenR 1048576 1048576 fdColumn) x0 := by simpa only [LenF] using L0
  have M1 := LenF_mono (n' := big) (m' := big) (by decide) (by decide) _ L1
  have P1 : x1.length ≤ 1048576 ∧ AllU (LenR 1048576 1048576 fdVersion) x1 := by simpa only [LenF] using L1
  obtain ⟨ux0, ux1, sb, CR, C2, cS, cI⟩ := core_TableAt ⟨_, g0⟩ L0 ⟨_, g1⟩ L1 n2 i2
  simp only [fdTable, LenR] at CR
  simp only [fdTable, cntR, cntF_int, cntF_bool, cntF_str] at C2
  have C1_0 := CR.1
  have C1_1 := CR.2.1
  obtain ⟨v0, c0, d0, r0, o0, n0'⟩ := run_toColumnS 58 g0 P0.1 P0.2
  obtain ⟨t0, h0, s0, e0, a0, u0, w0, f0, m0⟩ := own_call (h := ([] : Heap)) (args := [(.sl cl0 2 ct0)]) (by simp only [pureDAs, mapO, pureDA_pur g0]) r0 o0 n0'
  have b0 := own_ids a0 w0
  obtain ⟨v1, c1, d1, r1, o1, n1'⟩ := run_toVersionS 56 g1 P1.1 P1.2
  obtain ⟨t1, h1, s1, e1, a1, u1, w1, f1, m1⟩ := own_call (h := h0) (args := [(.sl cl1 4 ct1)]) (by simp only [pureDAs, mapO, pureDA_pur g1]) r1 o1 n1'
  have b1 := own_ids a1 w1
  have o1x := OwnF_frame _ a0 (fun j hj => f1 j (OwnF_lt _ a0 j hj))
  obtain ⟨qsw0, zsw0, ysw0⟩ := OwnF_pure (.sub fdColumn) 6 (by decide) o1x
  have xsw0 := pureDA_of o1x zsw0
  obtain ⟨qsw1, zsw1, ysw1⟩ := OwnF_pure (.sub fdVersion) 6 (by decide) a1
  have xsw1 := pureDA_of a1 zsw1
  obtain ⟨w0, w1, eS, gw0, gw1⟩ := cS ysw0 ysw1
  obtain ⟨hd, eW⟩ := call_spec (h := h1) (args := [t0, t1, .int .i64 n2]) (by simp only [pureDAs, mapO, pureDA_int, pureDA_bool, pureDA_str, pureDA_agg, pureD_intv, pureD_boolv, pureD_strv, Option.map_some, zsw0, xsw0, zsw1, xsw1]) eS
  try simp only [oneOf] at eW
  obtain ⟨h2, hbe2⟩ : ∃ hb : Heap, hb = hd ++ [Blk.box [w0, w1]] := ⟨_, rfl⟩
  have f2 : ∀ j, j < hd.length → h2[j]? = hd[j]? := fun j hj => by rw [hbe2, List.getElem?_append_left hj]
  have m2 : hd.length < h2.length := by rw [hbe2]; simp
  have B2b : h2[hd.length]? = some (Blk.box [w0, w1]) := by rw [hbe2]; simp
  have e2 := hbe2.symm
  obtain ⟨v3, c3, d3, r3, o3, n3'⟩ := run_toColumnS 58 g0 P0.1 P0.2
  obtain ⟨t3, h3, s3, e3, a3, u3, w3, f3, m3⟩ := own_call (h := h2) (args := [(.sl cl0 2 ct0)]) (by simp only [pureDAs, mapO, pureDA_pur g0]) r3 o3 n3'
  have b3 := own_ids a3 w3
  have B2x := (f3 _ (List.getElem?_eq_some_iff.1 B2b).1).trans B2b
  obtain ⟨v4, c4, d4, r4, o4, n4'⟩ := run_toVersionS 56 g1 P1.1 P1.2
  obtain ⟨t4, h4, s4, e4, a4, u4, w4, f4, m4⟩ := own_call (h := h3) (args := [(.sl cl1 4 ct1)]) (by simp only [pureDAs, mapO, pureDA_pur g1]) r4 o4 n4'
  have b4 := own_ids a4 w4
  have o3x := OwnF_frame _ a3 (fun j hj => f4 j (OwnF_lt _ a3 j hj))
  have B4x := (f4 _ (List.getElem?_eq_some_iff.1 B2x).1).trans B2x
  obtain ⟨qgx0, zgx0, ygx0⟩ := OwnF_pure (.sub fdColumn) 6 (by decide) o3x
  have xgx0 := pureDA_of o3x zgx0
  obtain ⟨qgx1, zgx1, ygx1⟩ := OwnF_pure (.sub fdVersion) 6 (by decide) a4
  have xgx1 := pureDA_of a4 zgx1
  obtain ⟨v5, c5, d5, r5, o5, n5', sc5⟩ := cI ygx0 ygx1
  obtain ⟨cs5, h5, s5, e5, a5, u5, w5, f5, m5⟩ := own_callAS (h := h4) (args := [t3, t4, .int .i64 n2]) (by simp only [pureDAs, mapO, pureDA_int, pureDA_bool, pureDA_str, pureDA_agg, pureD_intv, pureD_boolv, pureD_strv, Option.map_some, zgx0, xgx0, zgx1, xgx1]) r5 o5 n5' sc5 rfl
  obtain ⟨t5_0, xx5_0, t5_1, xx5_1, s5_0, s5_1, rfl, ex5, rfl, a5_0, a5_1⟩ := ownR_Table a5
  simp only [List.cons.injEq, U.int.injEq, U.bool.injEq, U.str.injEq, U.sub.injEq, and_true] at ex5
  obtain ⟨rfl, rfl⟩ := ex5
  have o5x := OwnF_frame _ o3x (fun j hj => f5 j (OwnF_lt _ o3x j hj))
  have o6x := OwnF_frame _ a4 (fun j hj => f5 j (OwnF_lt _ a4 j hj))
  have B7x := (f5 _ (List.getElem?_eq_some_iff.1 B4x).1).trans B4x
  have b5_0 : ∀ j ∈ s5_0, h4.length ≤ j ∧ j < h5.length := fun j hj => ⟨w5 j (by simp [hj]), OwnF_lt _ a5_0 j hj⟩
  have b5_1 : ∀ j ∈ s5_1, h4.length ≤ j ∧ j < h5.length := fun j hj => ⟨w5 j (by simp [hj]), OwnF_lt _ a5_1 j hj⟩
  obtain ⟨h6, hbe6⟩ : ∃ hb : Heap, hb = h5 ++ [Blk.box [t5_0, t5_1]] := ⟨_, rfl⟩
  have f6 : ∀ j, j < h5.length → h6[j]? = h5[j]? := fun j hj => by rw [hbe6, List.getElem?_append_left hj]
  have m6 : h5.length < h6.length := by rw [hbe6]; simp
  have B6b : h6[h5.length]? = some (Blk.box [t5_0, t5_1]) := by rw [hbe6]; simp
  have e6 := hbe6.symm
  have o8x := OwnF_frame _ o5x (fun j hj => f6 j (OwnF_lt _ o5x j hj))
  have o9x := OwnF_frame _ o6x (fun j hj => f6 j (OwnF_lt _ o6x j hj))
  have o10x := OwnF_frame _ a5_0 (fun j hj => f6 j (OwnF_lt _ a5_0 j hj))
  have o11x := OwnF_frame _ a5_1 (fun j hj => f6 j (OwnF_lt _ a5_1 j hj))
  have B12x := (f6 _ (List.getElem?_eq_some_iff.1 B7x).1).trans B7x
  obtain ⟨qgagR0, zgagR0, ygagR0⟩ := OwnF_pure (.sub fdColumn) 6 (by decide) o10x
  have xgagR0 := pureDA_of o10x zgagR0
  obtain ⟨qgagR1, zgagR1, ygagR1⟩ := OwnF_pure (.sub fdValueS) 6 (by decide) o11x
  have xgagR1 := pureDA_of o11x zgagR1
  have Ega := call_bool (h := h6) (args := [.agg [t5_0, t5_1], .agg [w0, w1]]) (by simp only [pureDAs, mapO, pureDA_int, pureDA_bool, pureDA_str, pureDA_agg, pureD_intv, pureD_boolv, pureD_strv, Option.map_some, zgagR0, xgagR0, zgagR1, xgagR1, pureD_pur gw0, pureD_pur gw1]) (run_eqTable 56  ygagR0 gw0 C1_0 ygagR1 gw1 C1_1)
  obtain ⟨v7, c7, d7, r7, o7, n7'⟩ := run_toColumnS 58 g0 P0.1 P0.2
  obtain ⟨t7, h7, s7, e7, a7, u7, w7, f7, m7⟩ := own_call (h := h6) (args := [(.sl cl0 2 ct0)]) (by simp only [pureDAs, mapO, pureDA_pur g0]) r7 o7 n7'
  have b7 := own_ids a7 w7
  have o13x := OwnF_frame _ o8x (fun j hj => f7 j (OwnF_lt _ o8x j hj))
  have o14x := OwnF_frame _ o9x (fun j hj => f7 j (OwnF_lt _ o9x j hj))
  have o15x := OwnF_frame _ o10x (fun j hj => f7 j (OwnF_lt _ o10x j hj))
  have o16x := OwnF_frame _ o11x (fun j hj => f7 j (OwnF_lt _ o11x j hj))
  have B17x := (f7 _ (List.getElem?_eq_some_iff.1 B12x).1).trans B12x
  have B18x := (f7 _ (List.getElem?_eq_some_iff.1 B6b).1).trans B6b
  obtain ⟨qA0x0, zA0x0, yA0x0⟩ := OwnF_pure (.sub fdColumn) 6 (by decide) o13x
  have xA0x0 := pureDA_of o13x zA0x0
  obtain ⟨qB0y0, zB0y0, yB0y0⟩ := OwnF_pure (.sub fdColumn) 6 (by decide) a7
  have xB0y0 := pureDA_of a7 zB0y0
  have EA0 := call_bool (h := h7) (args := [t3, t7]) (by simp only [pureDAs, mapO, pureDA_int, pureDA_bool, pureDA_str, pureDA_agg, pureD_intv, pureD_boolv, pureD_strv, Option.map_some, zA0x0, xA0x0, zB0y0, xB0y0]) (run_eqColumnS 58 yA0x0 yB0y0 M0)
  obtain ⟨v8, c8, d8, r8, o8, n8'⟩ := run_toVersionS 56 g1 P1.1 P1.2
  obtain ⟨t8, h8, s8, e8, a8, u8, w8, f8, m8⟩ := own_call (h := h7) (args := [(.sl cl1 4 ct1)]) (by simp only [pureDAs, mapO, pureDA_pur g1]) r8 o8 n8'
  have b8 := own_ids a8 w8
  have o19x := OwnF_frame _ o13x (fun j hj => f8 j (OwnF_lt _ o13x j hj))
  have o20x := OwnF_frame _ o14x (fun j hj => f8 j (OwnF_lt _ o14x j hj))
  have o21x := OwnF_frame _ o15x (fun j hj => f8 j (OwnF_lt _ o15x j hj))
  have o22x := OwnF_frame _ o16x (fun j hj => f8 j (OwnF_lt _ o16x j hj))
  have B23x := (f8 _ (List.getElem?_eq_some_iff.1 B17x).1).trans B17x
  have B24x := (f8 _ (List.getElem?_eq_some_iff.1 B18x).1).trans B18x
  obtain ⟨qA1x1, zA1x1, yA1x1⟩ := OwnF_pure (.sub fdVersion) 6 (by decide) o20x
  have xA1x1 := pureDA_of o20x zA1x1
  obtain ⟨qB1y1, zB1y1, yB1y1⟩ := OwnF_pure (.sub fdVersion) 6 (by decide) a8
  have xB1y1 := pureDA_of a8 zB1y1
  have EA1 := call_bool (h := h8) (args := [t4, t8]) (by simp only [pureDAs, mapO, pureDA_int, pureDA_bool, pureDA_str, pureDA_agg, pureD_intv, pureD_boolv, pureD_strv, Option.map_some, zA1x1, xA1x1, zB1y1, xB1y1]) (run_eqVersionS 56 yA1x1 yB1y1 M1)
  obtain ⟨h9, zmx0, e9, a9, k9, z9x, f9', m9⟩ := run_markColumnS 59 o19x u3 M0 (k := (1 : Int)) (by omega) (by omega)
  have f9 : ∀ j, j < h8.length → j ∉ s3 → h9[j]? = h8[j]? := fun j _ hj => f9' j hj
  have o25x := OwnF_frame _ o20x (fun j hj => f9 j (by have z := b4 j hj; first | omega | (have := OwnF_lt _ o20x j hj; omega)) (fun hm => by have z1 := b4 j hj; have z2 := b3 j hm; omega))
  have o26x := OwnF_frame _ o21x (fun j hj => f9 j (by have z := b5_0 j hj; first | omega | (have := OwnF_lt _ o21x j hj; omega)) (fun hm => by have z1 := b5_0 j hj; have z2 := b3 j hm; omega))
  have o27x := OwnF_frame _ o22x (fun j hj => f9 j (by have z := b5_1 j hj; first | omega | (have := OwnF_lt _ o22x j hj; omega)) (fun hm => by have z1 := b5_1 j hj; have z2 := b3 j hm; omega))
  have B28x := (f9 _ (List.getElem?_eq_some_iff.1 B23x).1 (fun hm => by have z2 := b3 _ hm; omega)).trans B23x
  have B29x := (f9 _ (List.getElem?_eq_some_iff.1 B24x).1 (fun hm => by have z2 := b3 _ hm; omega)).trans B24x
  obtain ⟨h10, zmx1, e10, a10, k10, z10x, f10', m10⟩ := run_markVersionS 57 o25x u4 M1 (k := ((1 : Int) + cntF (.sub fdColumn) (.sub x0))) (by omega) (by omega)
  have f10 : ∀ j, j < h9.length → j ∉ s4 → h10[j]? = h9[j]? := fun j _ hj => f10' j hj
  have o30x := OwnF_frame _ a9 (fun j hj => f10 j (by have z := b3 j hj; first | omega | (have := OwnF_lt _ a9 j hj; omega)) (fun hm => by have z1 := b3 j hj; have z2 := b4 j hm; omega))
  have o31x := OwnF_frame _ o26x (fun j hj => f10 j (by have z := b5_0 j hj; first | omega | (have := OwnF_lt _ o26x j hj; omega)) (fun hm => by have z1 := b5_0 j hj; have z2 := b4 j hm; omega))
  have o32x := OwnF_frame _ o27x (fun j hj => f10 j (by have z := b5_1 j hj; first | omega | (have := OwnF_lt _ o27x j hj; omega)) (fun hm => by have z1 := b5_1 j hj; have z2 := b4 j hm; omega))
  have B33x := (f10 _ (List.getElem?_eq_some_iff.1 B28x).1 (fun hm => by have z2 := b4 _ hm; omega)).trans B28x
  have B34x := (f10 _ (List.getElem?_eq_some_iff.1 B29x).1 (fun hm => by have z2 := b4 _ hm; omega)).trans B29x
  have K0 : ((((1 : Int) + cntF (.sub fdColumn) (.sub x0)) + cntF (.sub fdVersion) (.sub x1)) < 0) = False := eq_false (by omega)
  obtain ⟨qgbgR0, zgbgR0, ygbgR0⟩ := OwnF_pure (.sub fdColumn) 6 (by decide) o31x
  have xgbgR0 := pureDA_of o31x zgbgR0
  obtain ⟨qgbgR1, zgbgR1, ygbgR1⟩ := OwnF_pure (.sub fdValueS) 6 (by decide) o32x
  have xgbgR1 := pureDA_of o32x zgbgR1
  have Egb := call_bool (h := h10) (args := [.agg [t5_0, t5_1], .agg [w0, w1]]) (by simp only [pureDAs, mapO, pureDA_int, pureDA_bool, pureDA_str, pureDA_agg, pureD_intv, pureD_boolv, pureD_strv, Option.map_some, zgbgR0, xgbgR0, zgbgR1, xgbgR1, pureD_pur gw0, pureD_pur gw1]) (run_eqTable 56  ygbgR0 gw0 C1_0 ygbgR1 gw1 C1_1)
  obtain ⟨h11, zG0, zG1, e11, a11_0, a11_1, k11_0, k11_1, z11_0x, z11_1x, f11, m11⟩ := run_markTable 56 (h := h10) (k := 1)  o31x o32x u5 C1_0 C1_1 (by omega) (by omega)
  have o35x := OwnF_frame _ o30x (fun j hj => f11 j (by have z := b3 j hj; first | omega | (have := OwnF_lt _ o30x j hj; omega)) (fun hm => by have z1 := b3 j hj; have z2 := b5_0 j hm; omega) (fun hm => by have z1 := b3 j hj; have z2 := b5_1 j hm; omega))
  have o36x := OwnF_frame _ a10 (fun j hj => f11 j (by have z := b4 j hj; first | omega | (have := OwnF_lt _ a10 j hj; omega)) (fun hm => by have z1 := b4 j hj; have z2 := b5_0 j hm; omega) (fun hm => by have z1 := b4 j hj; have z2 := b5_1 j hm; omega))
  have B37x := (f11 _ (List.getElem?_eq_some_iff.1 B33x).1 (fun hm => by have z2 := b5_0 _ hm; omega) (fun hm => by have z2 := b5_1 _ hm; omega)).trans B33x
  have B38x := (f11 _ (List.getElem?_eq_some_iff.1 B34x).1 (fun hm => by have z2 := b5_0 _ hm; omega) (fun hm => by have z2 := b5_1 _ hm; omega)).trans B34x
  have K1 : (((1 : Int) + cntF (.sub fdColumn) (.sub ux0) + cntF (.sub fdValueS) (.sub ux1)) < 0) = False := eq_false (by omega)
  obtain ⟨qhagR0, zhagR0, yhagR0⟩ := OwnF_pure (.sub fdColumn) 6 (by decide) a11_0
  have xhagR0 := pureDA_of a11_0 zhagR0
  obtain ⟨qhagR1, zhagR1, yhagR1⟩ := OwnF_pure (.sub fdValueS) 6 (by decide) a11_1
  have xhagR1 := pureDA_of a11_1 zhagR1
  have Eha := call_int (h := h11) (args := [.agg [t5_0, t5_1], .int .i64 1]) (by simp only [pureDAs, mapO, pureDA_int, pureDA_bool, pureDA_str, pureDA_agg, pureD_intv, pureD_boolv, pureD_strv, Option.map_some, zhagR0, xhagR0, zhagR1, xhagR1]) (run_heldTable 56  yhagR0 yhagR1 k11_0 k11_1 z11_0x z11_1x (by omega) (by omega))
  obtain ⟨v12, c12, d12, r12, o12, n12'⟩ := run_toColumnS 58 g0 P0.1 P0.2
  obtain ⟨t12, h12, s12, e12, a12, u12, w12, f12, m12⟩ := own_call (h := h11) (args := [(.sl cl0 2 ct0)]) (by simp only [pureDAs, mapO, pureDA_pur g0]) r12 o12 n12'
  have b12 := own_ids a12 w12
  have o39x := OwnF_frame _ a11_0 (fun j hj => f12 j (OwnF_lt _ a11_0 j hj))
  have o40x := OwnF_frame _ a11_1 (fun j hj => f12 j (OwnF_lt _ a11_1 j hj))
  have B41x := (f12 _ (List.getElem?_eq_some_iff.1 B37x).1).trans B37x
  have B42x := (f12 _ (List.getElem?_eq_some_iff.1 B38x).1).trans B38x
  obtain ⟨v13, c13, d13, r13, o13, n13'⟩ := run_toVersionS 56 g1 P1.1 P1.2
  obtain ⟨t13, h13, s13, e13, a13, u13, w13, f13, m13⟩ := own_call (h := h12) (args := [(.sl cl1 4 ct1)]) (by simp only [pureDAs, mapO, pureDA_pur g1]) r13 o13 n13'
  have b13 := own_ids a13 w13
  have o43x := OwnF_frame _ o39x (fun j hj => f13 j (OwnF_lt _ o39x j hj))
  have o44x := OwnF_frame _ o40x (fun j hj => f13 j (OwnF_lt _ o40x j hj))
  have o45x := OwnF_frame _ a12 (fun j hj => f13 j (OwnF_lt _ a12 j hj))
  have B46x := (f13 _ (List.getElem?_eq_some_iff.1 B41x).1).trans B41x
  have B47x := (f13 _ (List.getElem?_eq_some_iff.1 B42x).1).trans B42x
  obtain ⟨qkh0, zkh0, ykh0⟩ := OwnF_pure (.sub fdColumn) 6 (by decide) o45x
  have xkh0 := pureDA_of o45x zkh0
  obtain ⟨qkh1, zkh1, ykh1⟩ := OwnF_pure (.sub fdVersion) 6 (by decide) a13
  have xkh1 := pureDA_of a13 zkh1
  obtain ⟨v14, c14, d14, r14, o14, n14', sc14⟩ := cI ykh0 ykh1
  obtain ⟨cs14, h14, s14, e14, a14, u14, w14, f14, m14⟩ := own_callAS (h := h13) (args := [t12, t13, .int .i64 n2]) (by simp only [pureDAs, mapO, pureDA_int, pureDA_bool, pureDA_str, pureDA_agg, pureD_intv, pureD_boolv, pureD_strv, Option.map_some, zkh0, xkh0, zkh1, xkh1]) r14 o14 n14' sc14 rfl
  obtain ⟨t14_0, xx14_0, t14_1, xx14_1, s14_0, s14_1, rfl, ex14, rfl, a14_0, a14_1⟩ := ownR_Table a14
  simp only [List.cons.injEq, U.int.injEq, U.bool.injEq, U.str.injEq, U.sub.injEq, and_true] at ex14
  obtain ⟨rfl, rfl⟩ := ex14
  have o48x := OwnF_frame _ o43x (fun j hj => f14 j (OwnF_lt _ o43x j hj))
  have o49x := OwnF_frame _ o44x (fun j hj => f14 j (OwnF_lt _ o44x j hj))
  have o50x := OwnF_frame _ o45x (fun j hj => f14 j (OwnF_lt _ o45x j hj))
  have o51x := OwnF_frame _ a13 (fun j hj => f14 j (OwnF_lt _ a13 j hj))
  have B52x := (f14 _ (List.getElem?_eq_some_iff.1 B46x).1).trans B46x
  have B53x := (f14 _ (List.getElem?_eq_some_iff.1 B47x).1).trans B47x
  have b14_0 : ∀ j ∈ s14_0, h13.length ≤ j ∧ j < h14.length := fun j hj => ⟨w14 j (by simp [hj]), OwnF_lt _ a14_0 j hj⟩
  have b14_1 : ∀ j ∈ s14_1, h13.length ≤ j ∧ j < h14.length := fun j hj => ⟨w14 j (by simp [hj]), OwnF_lt _ a14_1 j hj⟩
  obtain ⟨h15, hbe15⟩ : ∃ hb : Heap, hb = h14 ++ [Blk.box [t14_0, t14_1]] := ⟨_, rfl⟩
  have f15 : ∀ j, j < h14.length → h15[j]? = h14[j]? := fun j hj => by rw [hbe15, List.getElem?_append_left hj]
  have m15 : h14.length < h15.length := by rw [hbe15]; simp
  have B15b : h15[h14.length]? = some (Blk.box [t14_0, t14_1]) := by rw [hbe15]; simp
  have e15 := hbe15.symm
  have o54x := OwnF_frame _ o48x (fun j hj => f15 j (OwnF_lt _ o48x j hj))
  have o55x := OwnF_frame _ o49x (fun j hj => f15 j (OwnF_lt _ o49x j hj))
  have o56x := OwnF_frame _ o50x (fun j hj => f15 j (OwnF_lt _ o50x j hj))
  have o57x := OwnF_frame _ o51x (fun j hj => f15 j (OwnF_lt _ o51x j hj))
  have o58x := OwnF_frame _ a14_0 (fun j hj => f15 j (OwnF_lt _ a14_0 j hj))
  have o59x := OwnF_frame _ a14_1 (fun j hj => f15 j (OwnF_lt _ a14_1 j hj))
  have B60x := (f15 _ (List.getElem?_eq_some_iff.1 B52x).1).trans B52x
  have B61x := (f15 _ (List.getElem?_eq_some_iff.1 B53x).1).trans B53x
  obtain ⟨qgckR0, zgckR0, ygckR0⟩ := OwnF_pure (.sub fdColumn) 6 (by decide) o58x
  have xgckR0 := pureDA_of o58x zgckR0
  obtain ⟨qgckR1, zgckR1, ygckR1⟩ := OwnF_pure (.sub fdValueS) 6 (by decide) o59x
  have xgckR1 := pureDA_of o59x zgckR1
  have Egc := call_bool (h := h15) (args := [.agg [t14_0, t14_1], .agg [w0, w1]]) (by simp only [pureDAs, mapO, pureDA_int, pureDA_bool, pureDA_str, pureDA_agg, pureD_intv, pureD_boolv, pureD_strv, Option.map_some, zgckR0, xgckR0, zgckR1, xgckR1, pureD_pur gw0, pureD_pur gw1]) (run_eqTable 56  ygckR0 gw0 C1_0 ygckR1 gw1 C1_1)
  obtain ⟨qhbgR0, zhbgR0, yhbgR0⟩ := OwnF_pure (.sub fdColumn) 6 (by decide) o54x
  have xhbgR0 := pureDA_of o54x zhbgR0
  obtain ⟨qhbgR1, zhbgR1, yhbgR1⟩ := OwnF_pure (.sub fdValueS) 6 (by decide) o55x
  have xhbgR1 := pureDA_of o55x zhbgR1
  have Ehb := call_int (h := h15) (args := [.agg [t5_0, t5_1], .int .i64 1]) (by simp only [pureDAs, mapO, pureDA_int, pureDA_bool, pureDA_str, pureDA_agg, pureD_intv, pureD_boolv, pureD_strv, Option.map_some, zhbgR0, xhbgR0, zhbgR1, xhbgR1]) (run_heldTable 56  yhbgR0 yhbgR1 k11_0 k11_1 z11_0x z11_1x (by omega) (by omega))
  simp -implicitDefEqProofs (disch := omega) only [go_sem, Nat.reduceBEq, Nat.reduceAdd, Nat.reduceSub, Nat.reduceMul, Nat.reduceLeDiff, Nat.reduceEqDiff, Nat.reduceLT, Int.reduceNeg, Int.reduceAdd, Int.reduceSub, Int.reduceMul, Int.reduceLE, Int.reduceLT, Int.reduceEq, Int.reduceToNat, reduceCtorEq, z0, q0, z1, q1, K0, K1, e0, e1, eW, e2, B2b, B2x, e3, B4x, e4, B7x, e5, B12x, e6, B6b, Ega, B17x, B18x, e7, EA0, B23x, B24x, e8, EA1, B28x, B29x, e9, B33x, B34x, e10, Egb, B37x, B38x, e11, Eha, B41x, B42x, e12, B46x, B47x, e13, B52x, B53x, e14, B60x, B61x, e15, B15b, Egc, Ehb]
  exact ⟨_, rfl⟩
end Go.Proofs.Ytnnjpiepoeknnaa.PE
/- Arguments of any plain kind, as they are read: values of the evaluator. -/
set_option linter.unusedVariables false
set_option linter.unusedSimpArgs false
namespace Go.Proofs.Ytnnjpiepoeknnaa.PE
open Go.RowKit

mutual
def tyF (P : Program) : Nat → TypeId → Fd → Bool
  | 0, _, _ => false
  | n + 1, t, .int k => match P.underlying t with
    | some (.int k') => decide (k' = k)
    | _ => false
  | n + 1, t, .bool => match P.underlying t with
    | some .bool => true
    | _ => false
  | n + 1, t, .str => match P.underlying t with
    | some .string => true
    | _ => false
  | n + 1, t, .sub fs => match P.underlying t with
    | some (.slice e) => decide (P.cellsOf e = fs.length) && decide (0 < fs.length) && tyR P n e fs
    | _ => false
def tyR (P : Program) : Nat → TypeId → List Fd → Bool
  | 0, _, _ => false
  | n + 1, t, fs => match P.underlying t with
    | some (.struct flds) => decide (P.cellsOf t = fs.length) && tyS P n flds.toList 0 fs
    | _ => match fs with
      | [f] => tyF P n t f
      | _ => false
def tyS (P : Program) : Nat → List Field → Nat → List Fd → Bool
  | 0, _, _, _ => false
  | n + 1, [], _, fs => fs.isEmpty
  | n + 1, fl :: r, off, fs => decide (fl.offset = off) && tyR P n fl.type (fs.take (P.cellsOf fl.type)) && decide (P.cellsOf fl.type ≤ fs.length) && tyS P n r (off + P.cellsOf fl.type) (fs.drop (P.cellsOf fl.type))
end

def B63 : Nat := 9223372036854775807
section
variable {H : Type} {enc : TypeId × Value → H} {P : Program} {w : World} {base : Nat} {spare : Nat → Bool} {held : Bool}

/-- Cells and what they are. -/
def Got (w : World) (fs : List Fd) (cs : List Value) : Prop := ∃ (ps : List V) (us : List U), PurR fs ps us ∧ LenR B63 B63 fs us ∧ ps.length = cs.length ∧ ∀ (i : Nat) (y : V), ps[i]? = some y → ∃ u, cs[i]? = some u ∧ Rep w (fun b => b < w.heap.size) u y
theorem Got.one {f : Fd} {v : Value} {p : V} {u : U} (h1 : PurF f p u) (h2 : LenF B63 B63 f u) (h3 : Rep w (fun b => b < w.heap.size) v p) : Got w [f] [v] := by
  refine ⟨[p], [u], by simp only [PurR]; exact ⟨p, [], u, [], rfl, rfl, h1, rfl, rfl⟩, by simp only [LenR]; exact ⟨h2, trivial⟩, rfl, fun i y hy => ?_⟩
  cases i with
  | zero => simp at hy; subst hy; exact ⟨v, rfl, h3⟩
  | succ i => simp at hy
theorem PurR_len : ∀ {fs : List Fd} {ps : List V} {us : List U}, PurR fs ps us → ps.length = fs.length ∧ us.length = fs.length
  | [], _, _, h => by simp only [PurR] at h; rw [h.1, h.2]; exact ⟨rfl, rfl⟩
  | f :: fs, _, _, h => by
    simp only [PurR] at h
    obtain ⟨v, c', u, x', rfl, rfl, _, h2⟩ := h
    have := PurR_len h2
    simp [this.1, this.2]
theorem PurR_app : ∀ {f1 f2 : List Fd} {p1 p2 : List V} {u1 u2 : List U}, PurR f1 p1 u1 → PurR f2 p2 u2 → PurR (f1 ++ f2) (p1 ++ p2) (u1 ++ u2)
  | [], _, _, _, _, _, h, h2 => by simp only [PurR] at h; rw [h.1, h.2]; exact h2
  | f :: f1, f2, _, p2, _, u2, h, h2 => by
    simp only [PurR] at h
    obtain ⟨v, c', u, x', rfl, rfl, h3, h4⟩ := h
    show PurR (f :: (f1 ++ f2)) _ _
    simp only [PurR]
    exact ⟨v, c' ++ p2, u, x' ++ u2, rfl, rfl, h3, PurR_app h4 h2⟩
theorem LenR_app {n m : Nat} : ∀ {f1 f2 : List Fd} {u1 u2 : List U}, u1.length = f1.length → LenR n m f1 u1 → LenR n m f2 u2 → LenR n m (f1 ++ f2) (u1 ++ u2)
  | [], _, u1, _, hl, _, h2 => by
    have : u1 = [] := List.eq_nil_of_length_eq_zero hl
    subst this
    exact h2
  | f :: f1, f2, u :: u1, u2, hl, h, h2 => by
    show LenR n m (f :: (f1 ++ f2)) (u :: (u1 ++ u2))
    simp only [LenR] at h ⊢
    exact ⟨h.1, LenR_app (by simpa using hl) h.2 h2⟩
  | _ :: _, _, [], _, hl, _, _ => by simp at hl
theorem Got.app {f1 f2 : List Fd} {c1 c2 : List Value} (h1 : Got w f1 c1) (h2 : Got w f2 c2) : Got w (f1 ++ f2) (c1 ++ c2) := by
  obtain ⟨p1, u1, a1, a2, a3, a4⟩ := h1
  obtain ⟨p2, u2, b1, b2, b3, b4⟩ := h2
  refine ⟨p1 ++ p2, u1 ++ u2, PurR_app a1 b1, LenR_app (PurR_len a1).2 a2 b2, by simp [a3, b3], fun i y hy => ?_⟩
  rcases Nat.lt_or_ge i p1.length with hi | hi
  · rw [List.getElem?_append_left hi] at hy
    obtain ⟨u, hu, hr⟩ := a4 i y hy
    exact ⟨u, by rw [List.getElem?_append_left (by omega)]; exact hu, hr⟩
  · rw [List.getElem?_append_right hi] at hy
    obtain ⟨u, hu, hr⟩ := b4 _ y hy
    exact ⟨u, by rw [List.getElem?_append_right (by omega), ← a3]; exact hu, hr⟩

theorem plain_addr {a : Addr} {v : Value} (h : w.cell? a = some v) : ∃ g o, a = ⟨g, o, none⟩ ∧ g < w.heap.size := by
  obtain ⟨g, o, sp⟩ := a
  unfold World.cell? at h
  have hg : g < w.heap.size := by
    rcases Nat.lt_or_ge g w.heap.size with h1 | h1
    · exact h1
    · rw [Array.getElem?_eq_none h1] at h; cases sp <;> simp at h
  cases sp with
  | none => exact ⟨g, o, rfl, hg⟩
  | some s => simp at h; split at h <;> cases h

/-- A slice out of its elements. -/
theorem got_slice {fs : List Fd} {a : Addr} {len cap : Nat} (hpos : 0 < fs.length) (hl : len ≤ cap) (hm : cap ≤ maxLen) (hx : ∀ i, i < len → ∃ cs', w.cells? base (a.add (i * fs.length)) fs.length = some cs' ∧ Got w fs cs') :
    Got w [.sub fs] [.slice (some a) len cap] := by
  have hx' : ∀ i, i < len → ∃ q : List V × List U × List Value, w.cells? base (a.add (i * fs.length)) fs.length = some q.2.2 ∧ PurR fs q.1 q.2.1 ∧ LenR B63 B63 fs q.2.1 ∧ q.1.length = q.2.2.length ∧ ∀ (j : Nat) (y : V), q.1[j]? = some y → ∃ u, q.2.2[j]? = some u ∧ Rep w (fun b => b < w.heap.size) u y := by
    intro i hi
    obtain ⟨cs', h1, ps, us, h2, h3, h4, h5⟩ := hx i hi
    exact ⟨(ps, us, cs'), h1, h2, h3, h4, h5⟩
  obtain ⟨q, hq⟩ := Go.Deep.choose_lt hx'
  have hzip : ∀ (n : Nat), n ≤ len → Zip2 (PurR fs) ((List.range n).map fun i => (q i).1) ((List.range n).map fun i => (q i).2.1) ∧ AllU (LenR B63 B63 fs) ((List.range n).map fun i => (q i).2.1) := by
    have z2 : ∀ {l1 : List (List V)} {l2 : List (List U)} {c : List V} {x : List U}, Zip2 (PurR fs) l1 l2 → PurR fs c x → Zip2 (PurR fs) (l1 ++ [c]) (l2 ++ [x]) := by
      intro l1
      induction l1 with
      | nil => intro l2 c x h hc; cases l2 with
        | nil => exact ⟨hc, trivial⟩
        | cons b bs => exact h.elim
      | cons a l1 ih => intro l2 c x h hc; cases l2 with
        | nil => exact h.elim
        | cons b bs => exact ⟨h.1, ih h.2 hc⟩
    have a2 : ∀ {l2 : List (List U)} {x : List U}, AllU (LenR B63 B63 fs) l2 → LenR B63 B63 fs x → AllU (LenR B63 B63 fs) (l2 ++ [x]) := by
      intro l2
      induction l2 with
      | nil => intro x _ hx; exact ⟨hx, trivial⟩
      | cons b bs ih => intro x h hx; exact ⟨h.1, ih h.2 hx⟩
    intro n
    induction n with
    | zero => intro _; exact ⟨trivial, trivial⟩
    | succ n ih =>
      intro hn
      obtain ⟨i1, i2⟩ := ih (by omega)
      obtain ⟨_, b1, b2, _⟩ := hq n (by omega)
      rw [List.range_succ, List.map_append, List.map_append]
      exact ⟨z2 i1 b1, a2 i2 b2⟩
  obtain ⟨z1, z2⟩ := hzip len (Nat.le_refl _)
  have hml : maxLen = 9223372036854775807 := by decide
  refine Got.one (p := .sl false fs.length ((List.range len).map fun i => (q i).1)) (u := .sub ((List.range len).map fun i => (q i).2.1)) ?_ ?_ ?_
  · simp only [PurF]
    exact ⟨false, _, _, rfl, rfl, z1⟩
  · simp only [LenF, List.length_map, List.length_range]
    exact ⟨by unfold B63; omega, z2⟩
  · have hlen : ∀ j x, ((List.range len).map fun i => (q i).1)[j]? = some x → j < len ∧ x = (q j).1 := by
      intro j x hx
      rw [List.getElem?_map] at hx
      obtain ⟨k, hk, rfl⟩ := Option.map_eq_some_iff.1 hx
      have hj : j < len := by
        have := (List.getElem?_eq_some_iff.1 hk).1
        simpa using this
      rw [List.getElem?_range hj] at hk
      injection hk with hk
      subst hk
      exact ⟨hj, rfl⟩
    have hcell : ∀ (j c : Nat) (y : V), j < len → (q j).1[c]? = some y → ∃ u, (q j).2.2[c]? = some u ∧ w.cell? ((a.add (j * fs.length)).add c) = some u ∧ Rep w (fun b => b < w.heap.size) u y := by
      intro j c y hj hy
      obtain ⟨h1, h2, h3, h4, h5⟩ := hq j hj
      obtain ⟨_, h6, h7⟩ := World.cells?_some h1
      obtain ⟨u, hu, hr⟩ := h5 c y hy
      have hc : c < fs.length := by
        have := (List.getElem?_eq_some_iff.1 hu).1
        omega
      exact ⟨u, hu, (h7 c hc).trans hu, hr⟩
    refine Rep.sl (some a) len cap false _ fs.length (fun j c => ((q j).2.2[c]?).getD undef) (by simp) hl (fun e => by cases e) hpos (fun x hx => ?_) (fun hn => ?_) (fun j c x y hx hy => ?_)
    · obtain ⟨j, hj⟩ := List.getElem?_of_mem hx
      obtain ⟨h1, rfl⟩ := hlen j x hj
      exact (PurR_len (hq j h1).2.1).1
    · have h0 := (PurR_len (hq 0 hn).2.1).1
      have hy0 : (q 0).1[0]? = some (q 0).1[0] := List.getElem?_eq_getElem (by omega)
      obtain ⟨u0, _, c0, _⟩ := hcell 0 0 _ hn hy0
      rw [Nat.zero_mul] at c0
      have ha : (a.add 0).add 0 = a := by simp [Addr.add]
      rw [ha] at c0
      obtain ⟨g, o, rfl, hg⟩ := plain_addr c0
      refine ⟨g, o, rfl, hg, fun j c x y hx hy => ?_⟩
      obtain ⟨h1, rfl⟩ := hlen j x hx
      obtain ⟨u, hu, hc, _⟩ := hcell j c y h1 hy
      rw [add0, add0] at hc
      rw [hc, hu]
      rfl
    · obtain ⟨h1, rfl⟩ := hlen j x hx
      obtain ⟨u, hu, _, hr⟩ := hcell j c y h1 hy
      show Rep w _ (((q j).2.2[c]?).getD undef) y
      rw [hu]
      exact hr

mutual
theorem gotF : ∀ (n : Nat) {t : TypeId} {f : Fd} {fuel : Nat} {cs : List Value} {x : DataW H × List MemPlace}, tyF P n t f = true → DataW.trod enc P w base spare held fuel t cs = some x → Got w [f] cs
  | 0, _, _, _, _, _, ht, _ => by simp [tyF] at ht
  | n + 1, t, .int k, fuel, cs, x, ht, h => by
    simp only [tyF] at ht
    split at ht
    · rename_i k' hu
      simp only [decide_eq_true_eq] at ht
      subst ht
      obtain ⟨m, rfl, _, _⟩ := DataW.trod_int hu h
      exact Got.one (p := .int k' m) (u := .int m) (by simp only [PurF]; exact ⟨m, rfl, rfl⟩) (by simp [LenF]) (.int _ _)
    · cases ht
  | n + 1, t, .bool, fuel, cs, x, ht, h => by
    simp only [tyF] at ht
    split at ht
    · rename_i hu
      obtain ⟨m, rfl, _⟩ := DataW.trod_bool hu h
      exact Got.one (p := .bool m) (u := .bool m) (by simp only [PurF]; exact ⟨m, rfl, rfl⟩) (by simp [LenF]) (.bool _)
    · cases ht
  | n + 1, t, .str, fuel, cs, x, ht, h => by
    simp only [tyF] at ht
    split at ht
    · rename_i hu
      obtain ⟨m, rfl, _, hm⟩ := DataW.trod_string hu h
      have hml : maxLen = 9223372036854775807 := by decide
      exact Got.one (p := .str m) (u := .str m) (by simp only [PurF]; exact ⟨m, rfl, rfl⟩) (by simp only [LenF]; unfold B63; omega) (.str _)
    · cases ht
  | n + 1, t, .sub fs, fuel, cs, x, ht, h => by
    simp only [tyF] at ht
    split at ht
    · rename_i e hu
      simp only [Bool.and_eq_true, decide_eq_true_eq] at ht
      obtain ⟨⟨hc, hpos⟩, hr⟩ := ht
      rcases Go.Deep.open_slice hu h with ⟨rfl, _⟩ | ⟨a, len, cap, m, k, D, Pl, rfl, hb, hl, hm, hmm, _, hx⟩
      · exact Got.one (p := .sl true fs.length []) (u := .sub []) (by rw [PurF]; exact ⟨true, [], [], rfl, rfl, trivial⟩) (by simp only [LenF]; exact ⟨Nat.zero_le _, trivial⟩) (rep_empty hpos (fun _ => rfl))
      · refine got_slice (base := base) hpos hl hm (fun i hi => ?_)
        obtain ⟨cs', h1, h2⟩ := hx i (by rw [hmm]; split <;> omega)
        rw [hc] at h1
        exact ⟨cs', h1, gotR n hr h2⟩
    · cases ht
theorem gotR : ∀ (n : Nat) {t : TypeId} {fs : List Fd} {fuel : Nat} {cs : List Value} {x : DataW H × List MemPlace}, tyR P n t fs = true → DataW.trod enc P w base spare held fuel t cs = some x → Got w fs cs
  | 0, _, _, _, _, _, ht, _ => by simp [tyR] at ht
  | n + 1, t, fs, fuel, cs, x, ht, h => by
    simp only [tyR] at ht
    split at ht
    · rename_i flds hu
      simp only [Bool.and_eq_true, decide_eq_true_eq] at ht
      obtain ⟨xs, k, _, _, hcl, hxl, hf⟩ := DataW.trod_struct hu h
      refine gotS n (cs := cs) (off := 0) (fuel := k) ht.2 (by omega) (fun i fl hi => ?_)
      have hlt : i < xs.length := by
        have := (List.getElem?_eq_some_iff.1 hi).1
        simp at this
        omega
      rw [Array.getElem?_toList] at hi
      exact ⟨xs[i], by rw [hf i fl hi, List.getElem?_eq_getElem hlt]⟩
    · split at ht
      · rename_i f
        exact gotF n ht h
      · cases ht
theorem gotS : ∀ (n : Nat) {flds : List Field} {off : Nat} {fs : List Fd} {fuel : Nat} {cs : List Value}, tyS P n flds off fs = true → cs.length = off + fs.length → (∀ (i : Nat) (fl : Field), flds[i]? = some fl → ∃ x, DataW.trod enc P w base spare held fuel fl.type ((cs.drop fl.offset).take (P.cellsOf fl.type)) = some x) → Got w fs (cs.drop off)
  | 0, _, _, _, _, _, ht, _, _ => by simp [tyS] at ht
  | n + 1, [], off, fs, fuel, cs, ht, hl, _ => by
    simp only [tyS, List.isEmpty_iff] at ht
    subst ht
    rw [List.drop_of_length_le (by simp at hl; omega)]
    exact ⟨[], [], by simp [PurR], by simp [LenR], rfl, fun i y hy => by simp at hy⟩
  | n + 1, fl :: r, off, fs, fuel, cs, ht, hl, hx => by
    simp only [tyS, Bool.and_eq_true, decide_eq_true_eq] at ht
    obtain ⟨⟨⟨ho, h1⟩, hle⟩, h2⟩ := ht
    obtain ⟨x, hx0⟩ := hx 0 fl rfl
    rw [ho] at hx0
    have g1 := gotR n h1 hx0
    have g2 := gotS n (cs := cs) (off := off + P.cellsOf fl.type) h2 (by rw [List.length_drop]; omega) (fun i f hi => hx (i + 1) f (by simpa using hi))
    have g := g1.app g2
    rw [List.take_append_drop] at g
    rw [← List.drop_drop, List.take_append_drop] at g
    exact g
end
/-- An argument of a slice's type. -/
theorem got_arg {t : TypeId} {fs : List Fd} {v : Value} {d : DataW H} {ps : List MemPlace} (n : Nat) (ht : tyF P n t (.sub fs) = true) (h : DataW.Trod enc P w base spare held t v d ps) (hv : v.cells = #[v]) :
    ∃ p xs, Rep w (fun b => b < w.heap.size) v p ∧ PurF (.sub fs) p (.sub xs) ∧ LenF B63 B63 (.sub fs) (.sub xs) := by
  obtain ⟨fuel, h⟩ := h
  obtain ⟨ps, us, h1, h2, h3, h4⟩ := gotF n ht h
  simp only [PurR] at h1
  obtain ⟨p, _, u, _, rfl, rfl, g, rfl, rfl⟩ := h1
  simp only [LenR] at h2
  obtain ⟨u', hu, hr⟩ := h4 0 p rfl
  rw [hv] at hu
  simp at hu
  subst hu
  have g' := g
  simp only [PurF] at g'
  obtain ⟨_, _, xs, _, rfl, _⟩ := g'
  exact ⟨p, xs, hr, g, h2.1⟩
end
end Go.Proofs.Ytnnjpiepoeknnaa.PE
