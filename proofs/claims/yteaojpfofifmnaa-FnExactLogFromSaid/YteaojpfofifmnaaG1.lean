/- Texts of this claim, one behind the other: Pf2, Pf3, Pf4, Pf5, Pf6, Pf7, Pf8, Pb6, Pf9, Pfa, Pfb, Pfc, Pfd, Pru, Pl4, Pl6, Pb8, Pfe, Pff, Pfg, Pfh, Pr0, Pr5, Prb, Pfi, Pfk, Pfl, Pfm, Pfn. -/
import Derived.Test.YteaojpfofifmnaaG0
import Derived.Test.YteaojpfofifmnaaPeX
import Derived.Deep.Slices
import Derived.ChangeArms
/- Values read out of bytes: the reference. -/
set_option linter.unusedSimpArgs false
set_option linter.unusedVariables false
set_option maxHeartbeats 8000000
set_option maxRecDepth 20000
namespace Go.Proofs.Yteaojpfofifmnaa.PE
open Go.RowKit

-- find145
theorem run_vbytes0 (d : Nat) (k n : Int) (s : ByteArray) (h : Val.ok ⟨k, n, s⟩ = false) (hs : s.size < 1099511627776) : retP (runD tab noExt (d + 3)) 145 [.agg [.int .i64 k, .int .i64 n, .str s]] = some [.sl false 1 []] := by
  have hv := run_specValueOk d k n s hs
  rw [h] at hv
  rw [retP, runD_eq find145 _ _ _ (by simp)]
  simp -implicitDefEqProofs (disch := omega) only [go_sem, Nat.reduceBEq, Nat.reduceAdd, Nat.reduceSub, Nat.reduceMul, Nat.reduceLeDiff, Nat.reduceEqDiff, Nat.reduceLT, Int.reduceNeg, Int.reduceAdd, Int.reduceSub, Int.reduceMul, Int.reduceLE, Int.reduceLT, Int.reduceEq, Int.reduceToNat, reduceCtorEq, hv, elemsOf, elemOf]
theorem run_vbytes1 (d : Nat) (k n : Int) (s : ByteArray) {W : List (List V)} (h : Val.ok ⟨k, n, s⟩ = true) (hW : u8s (Val.bytes ⟨k, n, s⟩) = W) : retP (runD tab noExt (d + 3)) 145 [.agg [.int .i64 k, .int .i64 n, .str s]] = some [.sl false 1 W] := by
  rw [← hW]
  exact run_vbytesS d ⟨k, n, s⟩ h
theorem bytes1 {x y : UInt8} : u8s (Val.bytes ⟨1, 256 * (x.toNat : Int) + y.toNat - 10000, ⟨#[]⟩⟩) = [[.int .u8 1], [.int .u8 x.toNat], [.int .u8 y.toNat]] := by
  have hx := x.toNat_lt
  have hy := y.toNat_lt
  have e1 : (256 * (x.toNat : Int) + y.toNat - 10000 + 10000) / 256 = x.toNat := by omega
  have e2 : (256 * (x.toNat : Int) + y.toNat - 10000 + 10000) % 256 = y.toNat := by omega
  simp only [Val.bytes, Val.tail, if_true, e1, e2, u8s, List.map_cons, List.map_nil]
theorem bytes2 {n : Nat} {r : List UInt8} (h : n ≤ r.length) : u8s (Val.bytes ⟨2, 0, ⟨(r.take n).toArray⟩⟩) = [.int .u8 2] :: [.int .u8 (n : Nat)] :: cellsOfBytes (r.take n) := by
  have e : ((⟨(r.take n).toArray⟩ : ByteArray).size) = n := by simp [ByteArray.size]; omega
  have e2 : u8s (strB ⟨(r.take n).toArray⟩) = cellsOfBytes (r.take n) := by rw [← cells_strB]
  show [V.int .u8 2] :: [V.int .u8 ((⟨(r.take n).toArray⟩ : ByteArray).size : Nat)] :: u8s (strB ⟨(r.take n).toArray⟩) = _
  rw [e, e2]
theorem bytes2e : u8s (Val.bytes ⟨2, 0, ⟨#[]⟩⟩) = [[.int .u8 2], [.int .u8 0]] := rfl
theorem bytes3 {n : Int} : u8s (Val.bytes ⟨3, n, ⟨#[]⟩⟩) = [[.int .u8 3], [.int .u8 n]] := rfl
theorem bytes0 : u8s (Val.bytes ⟨0, 0, ⟨#[]⟩⟩) = [[.int .u8 0]] := rfl
theorem bytes1e : u8s (Val.bytes ⟨1, 0, ⟨#[]⟩⟩) = [[.int .u8 1], [.int .u8 39], [.int .u8 16]] := rfl
theorem ok1e : Val.ok ⟨1, 0, ⟨#[]⟩⟩ = true := by decide
theorem ok2e : Val.ok ⟨2, 0, ⟨#[]⟩⟩ = true := by decide
theorem ok3e : Val.ok ⟨3, 0, ⟨#[]⟩⟩ = true := by decide
theorem ok0e : Val.ok ⟨0, 0, ⟨#[]⟩⟩ = true := by decide
theorem okNe {k : Int} (h0 : k ≠ 0) (h1 : k ≠ 1) (h2 : k ≠ 2) (h3 : k ≠ 3) {n : Int} {s : ByteArray} : Val.ok ⟨k, n, s⟩ = false := by
  unfold Val.ok
  rw [if_neg h0, if_neg h1, if_neg h2, if_neg h3]
theorem es : (⟨#[]⟩ : ByteArray).size < 1099511627776 := by decide
-- find154
theorem run_vFromS (d : Nat) (c : Bool) (b : List UInt8) (hb : b.length < 1099511627776) : retP (runD tab noExt (d + 4)) 154 [.sl c 1 (cellsOfBytes b)] = some [.agg (vFrom b).1.cells, .int .i64 (vFrom b).2] := by
  have w0 := run_vbytes1 d 0 0 ⟨#[]⟩ ok0e bytes0
  have w1 := run_vbytes1 d 1 0 ⟨#[]⟩ ok1e bytes1e
  have w2 := run_vbytes1 d 2 0 ⟨#[]⟩ ok2e bytes2e
  have w3 := run_vbytes1 d 3 0 ⟨#[]⟩ ok3e bytes3
  rw [retP, runD_eq find154 _ _ _ (by simp)]
  match b, hb with
  | [], _ => simp -implicitDefEqProofs (disch := omega) only [go_sem, Nat.reduceBEq, Nat.reduceAdd, Nat.reduceSub, Nat.reduceMul, Nat.reduceLeDiff, Nat.reduceEqDiff, Nat.reduceLT, Int.reduceNeg, Int.reduceAdd, Int.reduceSub, Int.reduceMul, Int.reduceLE, Int.reduceLT, Int.reduceEq, Int.reduceToNat, reduceCtorEq, cob_nil, vFrom, Val.zero, Val.cells]
  | [k], _ =>
    have hk := k.toNat_lt
    by_cases k0 : k.toNat = 0
    · have e0 : ((k.toNat : Nat) : Int) = 0 := by omega
      simp -implicitDefEqProofs (disch := omega) only [go_sem, Nat.reduceBEq, Nat.reduceAdd, Nat.reduceSub, Nat.reduceMul, Nat.reduceLeDiff, Nat.reduceEqDiff, Nat.reduceLT, Int.reduceNeg, Int.reduceAdd, Int.reduceSub, Int.reduceMul, Int.reduceLE, Int.reduceLT, Int.reduceEq, Int.reduceToNat, reduceCtorEq, evC_draw, evD154x1, E154x1, cob_cons, cob_nil, vFrom, Val.zero, Val.cells, IntWalk.i64_in, k0, e0, w0, bytesOf]
    have e0 : (k.toNat = 0) = False := eq_false k0
    by_cases k1 : k.toNat = 1
    · have e1 : ((k.toNat : Nat) : Int) = 1 := by omega
      simp -implicitDefEqProofs (disch := omega) only [go_sem, Nat.reduceBEq, Nat.reduceAdd, Nat.reduceSub, Nat.reduceMul, Nat.reduceLeDiff, Nat.reduceEqDiff, Nat.reduceLT, Int.reduceNeg, Int.reduceAdd, Int.reduceSub, Int.reduceMul, Int.reduceLE, Int.reduceLT, Int.reduceEq, Int.reduceToNat, reduceCtorEq, evC_draw, evD154x1, E154x1, cob_cons, cob_nil, vFrom, Val.zero, Val.cells, IntWalk.i64_in, k1, e1, w1, bytesOf]
    by_cases k2 : k.toNat = 2
    · have e1 : ((k.toNat : Nat) : Int) = 2 := by omega
      simp -implicitDefEqProofs (disch := omega) only [go_sem, Nat.reduceBEq, Nat.reduceAdd, Nat.reduceSub, Nat.reduceMul, Nat.reduceLeDiff, Nat.reduceEqDiff, Nat.reduceLT, Int.reduceNeg, Int.reduceAdd, Int.reduceSub, Int.reduceMul, Int.reduceLE, Int.reduceLT, Int.reduceEq, Int.reduceToNat, reduceCtorEq, evC_draw, evD154x1, E154x1, cob_cons, cob_nil, vFrom, Val.zero, Val.cells, IntWalk.i64_in, k2, e1, w2, bytesOf]
    by_cases k3 : k.toNat = 3
    · have e1 : ((k.toNat : Nat) : Int) = 3 := by omega
      simp -implicitDefEqProofs (disch := omega) only [go_sem, Nat.reduceBEq, Nat.reduceAdd, Nat.reduceSub, Nat.reduceMul, Nat.reduceLeDiff, Nat.reduceEqDiff, Nat.reduceLT, Int.reduceNeg, Int.reduceAdd, Int.reduceSub, Int.reduceMul, Int.reduceLE, Int.reduceLT, Int.reduceEq, Int.reduceToNat, reduceCtorEq, evC_draw, evD154x1, E154x1, cob_cons, cob_nil, vFrom, Val.zero, Val.cells, IntWalk.i64_in, k3, e1, w3, bytesOf]
    have wn := run_vbytes0 d k.toNat 0 ⟨#[]⟩ (okNe (by omega) (by omega) (by omega) (by omega)) es
    have g1 : ((k.toNat : Int) = 1) = False := eq_false (by omega)
    have g2 : ((k.toNat : Int) = 2) = False := eq_false (by omega)
    have g3 : ((k.toNat : Int) = 3) = False := eq_false (by omega)
    simp -implicitDefEqProofs (disch := omega) only [go_sem, Nat.reduceBEq, Nat.reduceAdd, Nat.reduceSub, Nat.reduceMul, Nat.reduceLeDiff, Nat.reduceEqDiff, Nat.reduceLT, Int.reduceNeg, Int.reduceAdd, Int.reduceSub, Int.reduceMul, Int.reduceLE, Int.reduceLT, Int.reduceEq, Int.reduceToNat, reduceCtorEq, evC_draw, evD154x1, E154x1, cob_cons, cob_nil, vFrom, Val.zero, Val.cells, IntWalk.i64_in, e0, g1, g2, g3, wn, bytesOf]
  | k :: x :: r, hb =>
    have hk := k.toNat_lt
    have hx := x.toNat_lt
    have hxi : (x.toNat : Int) < 256 := by omega
    have l0 : ((r.length : Int) + 2 = 0) = False := eq_false (by omega)
    have l1 : ((1 : Int) < (r.length : Int) + 2) = True := eq_true (by omega)
    have l4 : ((1 : Int) ≤ (r.length : Int) + 2) = True := eq_true (by omega)
    have l5 : ((2 : Int) ≤ (r.length : Int) + 2) = True := eq_true (by omega)
    have l7 : ((r.length : Int) + 2 < 1) = False := eq_false (by omega)
    have l8 : ((r.length : Int) + 2 < 2) = False := eq_false (by omega)
    by_cases k0 : k.toNat = 0
    · have e0 : ((k.toNat : Nat) : Int) = 0 := by omega
      simp -implicitDefEqProofs (disch := omega) only [go_sem, Nat.reduceBEq, Nat.reduceAdd, Nat.reduceSub, Nat.reduceMul, Nat.reduceLeDiff, Nat.reduceEqDiff, Nat.reduceLT, Int.reduceNeg, Int.reduceAdd, Int.reduceSub, Int.reduceMul, Int.reduceLE, Int.reduceLT, Int.reduceEq, Int.reduceToNat, reduceCtorEq, evC_draw, evD154x1, E154x1, l0, l1, l4, l5, l7, l8, cob_cons, cob_len, vFrom, Val.zero, Val.cells, IntWalk.i64_in, k0, e0, w0, bytesOf]
    have e0 : (k.toNat = 0) = False := eq_false k0
    by_cases k1 : k.toNat = 1
    · have e1 : ((k.toNat : Nat) : Int) = 1 := by omega
      match r, hb with
      | [], _ => simp -implicitDefEqProofs (disch := omega) only [go_sem, Nat.reduceBEq, Nat.reduceAdd, Nat.reduceSub, Nat.reduceMul, Nat.reduceLeDiff, Nat.reduceEqDiff, Nat.reduceLT, Int.reduceNeg, Int.reduceAdd, Int.reduceSub, Int.reduceMul, Int.reduceLE, Int.reduceLT, Int.reduceEq, Int.reduceToNat, reduceCtorEq, evC_draw, evD154x1, E154x1, cob_cons, cob_nil, vFrom, Val.zero, Val.cells, IntWalk.i64_in, k1, e1, w1, bytesOf]
      | y :: r, hb =>
        have hy := y.toNat_lt
        have l2 : ((r.length : Int) + 3 = 0) = False := eq_false (by omega)
        have l3 : ((2 : Int) < (r.length : Int) + 3) = True := eq_true (by omega)
        have l6 : ((r.length : Int) + 3 < 3) = False := eq_false (by omega)
        have l9 : ((3 : Int) ≤ (r.length : Int) + 3) = True := eq_true (by omega)
        have hc : (x.toNat : Int) * 256 + y.toNat - 10000 = 256 * (x.toNat : Int) + y.toNat - 10000 := by omega
        cases ho : Val.ok ⟨1, 256 * (x.toNat : Int) + y.toNat - 10000, ⟨#[]⟩⟩
        · have w := run_vbytes0 d _ _ _ ho es
          simp -implicitDefEqProofs (disch := omega) only [go_sem, Nat.reduceBEq, Nat.reduceAdd, Nat.reduceSub, Nat.reduceMul, Nat.reduceLeDiff, Nat.reduceEqDiff, Nat.reduceLT, Int.reduceNeg, Int.reduceAdd, Int.reduceSub, Int.reduceMul, Int.reduceLE, Int.reduceLT, Int.reduceEq, Int.reduceToNat, reduceCtorEq, evC_draw, evD154x0, E154x0, evC_draw, evD154x1, E154x1, l2, l3, l6, l9, cob_cons, cob_len, vFrom, vChk, hc, Val.zero, Val.cells, IntWalk.i64_in, k1, e1, w, ho, bytesOf]
        · have w := run_vbytes1 d _ _ _ ho bytes1
          simp -implicitDefEqProofs (disch := omega) only [go_sem, Nat.reduceBEq, Nat.reduceAdd, Nat.reduceSub, Nat.reduceMul, Nat.reduceLeDiff, Nat.reduceEqDiff, Nat.reduceLT, Int.reduceNeg, Int.reduceAdd, Int.reduceSub, Int.reduceMul, Int.reduceLE, Int.reduceLT, Int.reduceEq, Int.reduceToNat, reduceCtorEq, evC_draw, evD154x0, E154x0, evC_draw, evD154x1, E154x1, l2, l3, l6, l9, cob_cons, cob_len, vFrom, vChk, hc, Val.zero, Val.cells, IntWalk.i64_in, k1, e1, w, ho, bytesOf]
    have e1 : (k.toNat = 1) = False := eq_false k1
    by_cases k2 : k.toNat = 2
    · have e2 : ((k.toNat : Nat) : Int) = 2 := by omega
      by_cases hxr : x.toNat ≤ r.length
      · have lx : ((2 : Int) + x.toNat ≤ (r.length : Int) + 2) = True := eq_true (by omega)
        have lt : (2 + (x.toNat : Int)).toNat - 2 = x.toNat := by omega
        have lge : ((2 : Int) ≤ 2 + x.toNat) = True := eq_true (by omega)
        have l11 : ((r.length : Int) + 2 < (x.toNat : Int) + 2) = False := eq_false (by omega)
        have l12 : ((x.toNat : Int) + 2 = 0) = False := eq_false (by omega)
        have l13 : (0 ≤ (x.toNat : Int) + 2 ∧ (x.toNat : Int) + 2 ≤ (r.length : Int) + 2) = True := eq_true (by omega)
        have lt2 : ((x.toNat : Int) + 2).toNat = x.toNat + 2 := by omega
        have hm : min x.toNat r.length = x.toNat := by omega
        cases ho : Val.ok ⟨2, 0, ⟨(r.take x.toNat).toArray⟩⟩
        · have w := run_vbytes0 d _ _ _ ho (Nat.lt_of_le_of_lt (Nat.le_of_eq (toS_size (r.take x.toNat))) (by rw [List.length_take]; omega))
          simp -implicitDefEqProofs (disch := omega) only [go_sem, Nat.reduceBEq, Nat.reduceAdd, Nat.reduceSub, Nat.reduceMul, Nat.reduceLeDiff, Nat.reduceEqDiff, Nat.reduceLT, Int.reduceNeg, Int.reduceAdd, Int.reduceSub, Int.reduceMul, Int.reduceLE, Int.reduceLT, Int.reduceEq, Int.reduceToNat, reduceCtorEq, evC_draw, evD154x1, E154x1, l0, l1, lx, lt, lge, hxr, cob_cons, cob_len, cob_take, cob_drop, bytesOf_cob, vFrom, vChk, toS, Val.zero, Val.cells, IntWalk.i64_in, k2, e2, w, ho, bytesOf]
        · have w := run_vbytes1 d _ _ _ ho (bytes2 hxr)
          simp -implicitDefEqProofs (disch := omega) only [go_sem, Nat.reduceBEq, Nat.reduceAdd, Nat.reduceSub, Nat.reduceMul, Nat.reduceLeDiff, Nat.reduceEqDiff, Nat.reduceLT, Int.reduceNeg, Int.reduceAdd, Int.reduceSub, Int.reduceMul, Int.reduceLE, Int.reduceLT, Int.reduceEq, Int.reduceToNat, reduceCtorEq, evC_draw, evD154x1, E154x1, l0, l1, l11, l12, l13, lt2, hm, lx, lt, lge, hxr, List.length_take, cob_cons, cob_len, cob_take, cob_drop, bytesOf_cob, vFrom, vChk, toS, Val.zero, Val.cells, IntWalk.i64_in, k2, e2, w, ho, bytesOf]
          rw [Int.add_comm]
      · have lx : ((2 : Int) + x.toNat ≤ (r.length : Int) + 2) = False := eq_false (by omega)
        have hne : ((⟨#[UInt8.ofNat 2, UInt8.ofNat 0]⟩ : ByteArray) = ⟨#[UInt8.ofNat 2, UInt8.ofNat x.toNat]⟩) = False := eq_false (by
          intro h
          injection h with h
          have h1 := congrArg Array.toList h
          simp at h1
          apply hxr
          rw [← h1]
          simp)
        simp -implicitDefEqProofs (disch := omega) only [go_sem, Nat.reduceBEq, Nat.reduceAdd, Nat.reduceSub, Nat.reduceMul, Nat.reduceLeDiff, Nat.reduceEqDiff, Nat.reduceLT, Int.reduceNeg, Int.reduceAdd, Int.reduceSub, Int.reduceMul, Int.reduceLE, Int.reduceLT, Int.reduceEq, Int.reduceToNat, reduceCtorEq, evC_draw, evD154x1, E154x1, l0, l1, l4, l5, l7, l8, lx, hne, hxr, cob_cons, cob_len, vFrom, vChk, Val.zero, Val.cells, IntWalk.i64_in, k2, e2, w2, bytesOf]
    have e2 : (k.toNat = 2) = False := eq_false k2
    by_cases k3 : k.toNat = 3
    · have e3 : ((k.toNat : Nat) : Int) = 3 := by omega
      cases ho : Val.ok ⟨3, x.toNat, ⟨#[]⟩⟩
      · have w := run_vbytes0 d _ _ _ ho es
        simp -implicitDefEqProofs (disch := omega) only [go_sem, Nat.reduceBEq, Nat.reduceAdd, Nat.reduceSub, Nat.reduceMul, Nat.reduceLeDiff, Nat.reduceEqDiff, Nat.reduceLT, Int.reduceNeg, Int.reduceAdd, Int.reduceSub, Int.reduceMul, Int.reduceLE, Int.reduceLT, Int.reduceEq, Int.reduceToNat, reduceCtorEq, evC_draw, evD154x1, E154x1, l0, l1, l4, l5, l7, l8, cob_cons, cob_len, vFrom, vChk, Val.zero, Val.cells, IntWalk.i64_in, k3, e3, w, ho, bytesOf]
      · have w := run_vbytes1 d _ _ _ ho bytes3
        simp -implicitDefEqProofs (disch := omega) only [go_sem, Nat.reduceBEq, Nat.reduceAdd, Nat.reduceSub, Nat.reduceMul, Nat.reduceLeDiff, Nat.reduceEqDiff, Nat.reduceLT, Int.reduceNeg, Int.reduceAdd, Int.reduceSub, Int.reduceMul, Int.reduceLE, Int.reduceLT, Int.reduceEq, Int.reduceToNat, reduceCtorEq, evC_draw, evD154x1, E154x1, l0, l1, l4, l5, l7, l8, cob_cons, cob_len, vFrom, vChk, Val.zero, Val.cells, IntWalk.i64_in, k3, e3, w, ho, bytesOf]
    · have wn := run_vbytes0 d k.toNat 0 ⟨#[]⟩ (okNe (by omega) (by omega) (by omega) (by omega)) es
      have g1 : ((k.toNat : Int) = 1) = False := eq_false (by omega)
      have g2 : ((k.toNat : Int) = 2) = False := eq_false (by omega)
      have g3 : ((k.toNat : Int) = 3) = False := eq_false (by omega)
      simp -implicitDefEqProofs (disch := omega) only [go_sem, Nat.reduceBEq, Nat.reduceAdd, Nat.reduceSub, Nat.reduceMul, Nat.reduceLeDiff, Nat.reduceEqDiff, Nat.reduceLT, Int.reduceNeg, Int.reduceAdd, Int.reduceSub, Int.reduceMul, Int.reduceLE, Int.reduceLT, Int.reduceEq, Int.reduceToNat, reduceCtorEq, evC_draw, evD154x1, E154x1, l0, l1, cob_cons, cob_len, vFrom, vChk, Val.zero, Val.cells, IntWalk.i64_in, e0, e1, e2, k3, g1, g2, g3, wn, bytesOf]
end Go.Proofs.Yteaojpfofifmnaa.PE
/- Rows read out of bytes: both functions. -/
set_option linter.unusedSimpArgs false
set_option linter.unusedVariables false
set_option maxHeartbeats 8000000
set_option maxRecDepth 20000
namespace Go.Proofs.Yteaojpfofifmnaa.PE
open Go.RowKit

def vsFrom : Nat → List UInt8 → Option (List Val × Nat)
  | 0, _ => some ([], 0)
  | m + 1, b => if (vFrom b).2 = 0 then none else match vsFrom m (b.drop (vFrom b).2) with
    | none => none
    | some (vs, n) => some ((vFrom b).1 :: vs, (vFrom b).2 + n)
def rFrom : List UInt8 → List Val × Nat
  | [] => ([], 0)
  | k :: r => if 4 < k.toNat then ([], 0) else match vsFrom k.toNat r with
    | none => ([], 0)
    | some (vs, n) => (vs, 1 + n)
theorem vChk_le {v : Val} {n m : Nat} (h : n ≤ m) : (vChk v n).2 ≤ m := by
  unfold vChk
  split
  · exact h
  · exact Nat.zero_le _
theorem vFrom_le : ∀ (b : List UInt8), (vFrom b).2 ≤ b.length
  | [] => Nat.le_refl _
  | [k] => by
    simp only [vFrom, List.length_cons, List.length_nil]
    split <;> simp
  | k :: x :: r => by
    simp only [vFrom, List.length_cons]
    by_cases k0 : k.toNat = 0
    · rw [if_pos k0]; simp
    rw [if_neg k0]
    by_cases k1 : k.toNat = 1
    · rw [if_pos k1]
      match r with
      | [] => simp
      | y :: r => exact vChk_le (by simp only [List.length_cons]; omega)
    rw [if_neg k1]
    by_cases k2 : k.toNat = 2
    · rw [if_pos k2]
      by_cases h : x.toNat ≤ r.length
      · rw [if_pos h]; exact vChk_le (by omega)
      · rw [if_neg h]; simp
    rw [if_neg k2]
    by_cases k3 : k.toNat = 3
    · rw [if_pos k3]; exact vChk_le (by omega)
    · rw [if_neg k3]; simp
-- find31
theorem loop_rfI (d : Nat) (c : Bool) (b : List UInt8) (hb : b.length < 1099511627776) (kk : Nat) (hk : kk ≤ 4) : ∀ (m i p : Nat) (row : List Val), i + m = kk → p ≤ b.length → row.length = i → ∀ K, m ≤ K →
    match vsFrom m (b.drop p) with
    | none => ∃ (p' : Nat) (row' : List Val), LoopS (runD tab noExt (d + 5)) (drawI (runD tab noExt (d + 5))) [0, 4, 5, 20, 21] [2, 3, 4, 5] L31x0 1 K [(0, .sl c 1 (cellsOfBytes b)), (4, .int .i64 p), (5, .ref 0 i 0 i false), (20, .int .i64 kk), (21, .int .i64 i)] [.rows i 3 (row.map Val.cells)] = some (.ret, [(2, .sl true 3 []), (3, .int .i64 0), (4, .int .i64 p'), (5, .ref 0 row'.length 0 row'.length false)], [.rows row'.length 3 (row'.map Val.cells)])
    | some (vs, n) => LoopS (runD tab noExt (d + 5)) (drawI (runD tab noExt (d + 5))) [0, 4, 5, 20, 21] [2, 3, 4, 5] L31x0 1 K [(0, .sl c 1 (cellsOfBytes b)), (4, .int .i64 p), (5, .ref 0 i 0 i false), (20, .int .i64 kk), (21, .int .i64 i)] [.rows i 3 (row.map Val.cells)] = some (.exit 0, [(2, .undef), (3, .undef), (4, .int .i64 (p + n : Nat)), (5, .ref 0 kk 0 kk false)], [.rows kk 3 ((row ++ vs).map Val.cells)])
  | 0, i, p, row, hi, hp, hr, K, hK => by
    have e : i = kk := by omega
    subst e
    simp only [vsFrom]
    rw [LoopS_eq]
    simp -implicitDefEqProofs only [go_sem, Nat.reduceBEq, Nat.reduceAdd, Nat.reduceSub, Nat.reduceMul, Nat.reduceLeDiff, Nat.reduceEqDiff, Nat.reduceLT, Int.reduceNeg, Int.reduceAdd, Int.reduceSub, Int.reduceMul, Int.reduceLE, Int.reduceLT, Int.reduceEq, Int.reduceToNat, reduceCtorEq, evL31x0, B31x0, Int.lt_irrefl, List.append_nil, Nat.add_zero]
  | m + 1, i, p, row, hi, hp, hr, K, hK => by
    obtain ⟨K, rfl⟩ : ∃ k', K = k' + 1 := ⟨K - 1, by omega⟩
    have hlt : (i : Int) < kk := by omega
    have hpl : (p : Int) ≤ b.length := by omega
    have hv := run_vFromI (d + 1) c (b.drop p) (by rw [List.length_drop]; omega)
    have htk : List.take (b.length - p) (b.drop p) = b.drop p := List.take_of_length_le (by simp)
    simp only [Val.cells] at hv
    have hle := vFrom_le (b.drop p)
    rw [List.length_drop] at hle
    simp only [vsFrom]
    by_cases h0 : (vFrom (b.drop p)).2 = 0
    · have h0' : ((vFrom (b.drop p)).2 : Int) = 0 := by omega
      rw [if_pos h0]
      refine ⟨p, row, ?_⟩
      rw [LoopS_eq]
      simp -implicitDefEqProofs (disch := omega) only [go_sem, Nat.reduceBEq, Nat.reduceAdd, Nat.reduceSub, Nat.reduceMul, Nat.reduceLeDiff, Nat.reduceEqDiff, Nat.reduceLT, Int.reduceNeg, Int.reduceAdd, Int.reduceSub, Int.reduceMul, Int.reduceLE, Int.reduceLT, Int.reduceEq, Int.reduceToNat, reduceCtorEq, evL31x0, B31x0, hlt, hpl, cob_drop, cob_len, cob_take, htk, hv, h0', hr, Val.cells]
    · have h0' : (((vFrom (b.drop p)).2 : Int) = 0) = False := eq_false (by omega)
      rw [if_neg h0]
      have ih := loop_rfI d c b hb kk hk m (i + 1) (p + (vFrom (b.drop p)).2) (row ++ [(vFrom (b.drop p)).1]) (by omega) (by omega) (by simp [hr]) K (by omega)
      rw [← List.drop_drop] at ih
      have hsm : i + 1 < 4294967296 := by omega
      revert ih
      generalize vsFrom m (List.drop (vFrom (b.drop p)).2 (b.drop p)) = R
      intro ih
      have step : LoopS (runD tab noExt (d + 5)) (drawI (runD tab noExt (d + 5))) [0, 4, 5, 20, 21] [2, 3, 4, 5] L31x0 1 (K + 1) [(0, .sl c 1 (cellsOfBytes b)), (4, .int .i64 p), (5, .ref 0 i 0 i false), (20, .int .i64 kk), (21, .int .i64 i)] [.rows i 3 (row.map Val.cells)] = LoopS (runD tab noExt (d + 5)) (drawI (runD tab noExt (d + 5))) [0, 4, 5, 20, 21] [2, 3, 4, 5] L31x0 1 K [(0, .sl c 1 (cellsOfBytes b)), (4, .int .i64 (p + (vFrom (b.drop p)).2 : Nat)), (5, .ref 0 (i + 1) 0 (i + 1) false), (20, .int .i64 kk), (21, .int .i64 (i + 1 : Nat))] [.rows (i + 1) 3 ((row ++ [(vFrom (b.drop p)).1]).map Val.cells)] := by
        rw [LoopS_eq]
        simp -implicitDefEqProofs (disch := omega) only [go_sem, Nat.reduceBEq, Nat.reduceAdd, Nat.reduceSub, Nat.reduceMul, Nat.reduceLeDiff, Nat.reduceEqDiff, Nat.reduceLT, Int.reduceNeg, Int.reduceAdd, Int.reduceSub, Int.reduceMul, Int.reduceLE, Int.reduceLT, Int.reduceEq, Int.reduceToNat, reduceCtorEq, evL31x0, B31x0, hlt, hpl, cob_drop, cob_len, cob_take, htk, hv, h0', hr, hsm, Val.cells, List.map_append, IntWalk.i64_in, elemsOf, elemOf]
      rw [step]
      cases R with
      | none => exact ih
      | some q => simpa only [List.append_assoc, List.singleton_append, Nat.add_assoc] using ih
end Go.Proofs.Yteaojpfofifmnaa.PE
/- Rows read out of bytes: the reference's loop. -/
set_option linter.unusedSimpArgs false
set_option linter.unusedVariables false
set_option maxHeartbeats 8000000
set_option maxRecDepth 20000
namespace Go.Proofs.Yteaojpfofifmnaa.PE
open Go.RowKit

-- find132
theorem loop_rfS (d : Nat) (c : Bool) (b : List UInt8) (hb : b.length < 1099511627776) (kk : Nat) (hk : kk ≤ 4) (h00 : (cellsOfBytes b)[0]? = some [.int .u8 (kk : Nat)]) : ∀ (m i p : Nat) (row : List Val), i + m = kk → p ≤ b.length → row.length = i → ∀ K, m ≤ K →
    match vsFrom m (b.drop p) with
    | none => ∃ (p' : Nat) (row' : List Val) (v : Val), LoopS (runD tab noExt (d + 5)) (drawI (runD tab noExt (d + 5))) [0, 4, 5, 6] [2, 3, 4, 5] L132x0 2 K [(0, .sl c 1 (cellsOfBytes b)), (4, .ref 1 i 0 i false), (5, .int .i64 p), (6, .int .i64 i)] [.rows 0 3 [], .rows i 3 (row.map Val.cells)] = some (.ret, [(2, .ref 3 0 0 0 false), (3, .int .i64 0), (4, .ref 1 row'.length 0 row'.length false), (5, .int .i64 p')], [.rows 0 3 [], .rows row'.length 3 (row'.map Val.cells), .box v.cells, .rows 0 3 []])
    | some (vs, n) => LoopS (runD tab noExt (d + 5)) (drawI (runD tab noExt (d + 5))) [0, 4, 5, 6] [2, 3, 4, 5] L132x0 2 K [(0, .sl c 1 (cellsOfBytes b)), (4, .ref 1 i 0 i false), (5, .int .i64 p), (6, .int .i64 i)] [.rows 0 3 [], .rows i 3 (row.map Val.cells)] = some (.exit 0, [(2, .undef), (3, .undef), (4, .ref 1 kk 0 kk false), (5, .int .i64 (p + n : Nat))], [.rows 0 3 [], .rows kk 3 ((row ++ vs).map Val.cells)])
  | 0, i, p, row, hi, hp, hr, K, hK => by
    have e : i = kk := by omega
    subst e
    simp only [vsFrom]
    rw [LoopS_eq]
    simp -implicitDefEqProofs (disch := omega) only [go_sem, Nat.reduceBEq, Nat.reduceAdd, Nat.reduceSub, Nat.reduceMul, Nat.reduceLeDiff, Nat.reduceEqDiff, Nat.reduceLT, Int.reduceNeg, Int.reduceAdd, Int.reduceSub, Int.reduceMul, Int.reduceLE, Int.reduceLT, Int.reduceEq, Int.reduceToNat, reduceCtorEq, evL132x0, B132x0, h00, IntWalk.i64_in, Int.lt_irrefl, List.append_nil, Nat.add_zero, Int.add_zero]
  | m + 1, i, p, row, hi, hp, hr, K, hK => by
    obtain ⟨K, rfl⟩ : ∃ k', K = k' + 1 := ⟨K - 1, by omega⟩
    have hlt : (i : Int) < kk := by omega
    have hpl : (p : Int) ≤ b.length := by omega
    have hv := run_vFromS (d + 1) c (b.drop p) (by rw [List.length_drop]; omega)
    have htk : List.take (b.length - p) (b.drop p) = b.drop p := List.take_of_length_le (by simp)
    simp only [Val.cells] at hv
    have hle := vFrom_le (b.drop p)
    rw [List.length_drop] at hle
    simp only [vsFrom]
    by_cases h0 : (vFrom (b.drop p)).2 = 0
    · have h0' : ((vFrom (b.drop p)).2 : Int) = 0 := by omega
      rw [if_pos h0]
      refine ⟨p, row, (vFrom (b.drop p)).1, ?_⟩
      rw [LoopS_eq]
      simp -implicitDefEqProofs (disch := omega) only [go_sem, Nat.reduceBEq, Nat.reduceAdd, Nat.reduceSub, Nat.reduceMul, Nat.reduceLeDiff, Nat.reduceEqDiff, Nat.reduceLT, Int.reduceNeg, Int.reduceAdd, Int.reduceSub, Int.reduceMul, Int.reduceLE, Int.reduceLT, Int.reduceEq, Int.reduceToNat, reduceCtorEq, evL132x0, B132x0, h00, IntWalk.i64_in, hlt, hpl, cob_drop, cob_len, cob_take, htk, hv, h0', hr, Val.cells, elemsOf, elemOf]
    · have h0' : (((vFrom (b.drop p)).2 : Int) = 0) = False := eq_false (by omega)
      rw [if_neg h0]
      have ih := loop_rfS d c b hb kk hk h00 m (i + 1) (p + (vFrom (b.drop p)).2) (row ++ [(vFrom (b.drop p)).1]) (by omega) (by omega) (by simp [hr]) K (by omega)
      rw [← List.drop_drop] at ih
      have hsm : i + 1 < 4294967296 := by omega
      revert ih
      generalize vsFrom m (List.drop (vFrom (b.drop p)).2 (b.drop p)) = R
      intro ih
      have step : LoopS (runD tab noExt (d + 5)) (drawI (runD tab noExt (d + 5))) [0, 4, 5, 6] [2, 3, 4, 5] L132x0 2 (K + 1) [(0, .sl c 1 (cellsOfBytes b)), (4, .ref 1 i 0 i false), (5, .int .i64 p), (6, .int .i64 i)] [.rows 0 3 [], .rows i 3 (row.map Val.cells)] = LoopS (runD tab noExt (d + 5)) (drawI (runD tab noExt (d + 5))) [0, 4, 5, 6] [2, 3, 4, 5] L132x0 2 K [(0, .sl c 1 (cellsOfBytes b)), (4, .ref 1 (i + 1) 0 (i + 1) false), (5, .int .i64 (p + (vFrom (b.drop p)).2 : Nat)), (6, .int .i64 (i + 1 : Nat))] [.rows 0 3 [], .rows (i + 1) 3 ((row ++ [(vFrom (b.drop p)).1]).map Val.cells)] := by
        rw [LoopS_eq]
        simp -implicitDefEqProofs (disch := omega) only [go_sem, Nat.reduceBEq, Nat.reduceAdd, Nat.reduceSub, Nat.reduceMul, Nat.reduceLeDiff, Nat.reduceEqDiff, Nat.reduceLT, Int.reduceNeg, Int.reduceAdd, Int.reduceSub, Int.reduceMul, Int.reduceLE, Int.reduceLT, Int.reduceEq, Int.reduceToNat, reduceCtorEq, evL132x0, B132x0, h00, hlt, hpl, cob_drop, cob_len, cob_take, htk, hv, h0', hr, hsm, Val.cells, List.map_append, IntWalk.i64_in, elemsOf, elemOf]
      rw [step]
      cases R with
      | none => exact ih
      | some q => simpa only [List.append_assoc, List.singleton_append, Nat.add_assoc] using ih
end Go.Proofs.Yteaojpfofifmnaa.PE
/- Rows read out of bytes: both functions. -/
set_option linter.unusedSimpArgs false
set_option linter.unusedVariables false
set_option maxHeartbeats 8000000
set_option maxRecDepth 20000
namespace Go.Proofs.Yteaojpfofifmnaa.PE
open Go.RowKit

theorem vsFrom_len : ∀ (m : Nat) (b : List UInt8) {vs : List Val} {n : Nat}, vsFrom m b = some (vs, n) → vs.length = m := by
  intro m
  induction m with
  | zero => intro b vs n h; simp only [vsFrom, Option.some.injEq, Prod.mk.injEq] at h; rw [← h.1]; rfl
  | succ m ih =>
    intro b vs n h
    simp only [vsFrom] at h
    split at h
    · cases h
    · split at h
      · cases h
      · rename_i h2
        simp only [Option.some.injEq, Prod.mk.injEq] at h
        rw [← h.1, List.length_cons, ih _ h2]
theorem vsFrom_le : ∀ (m : Nat) (b : List UInt8) {vs : List Val} {n : Nat}, vsFrom m b = some (vs, n) → n ≤ b.length := by
  intro m
  induction m with
  | zero => intro b vs n h; simp only [vsFrom, Option.some.injEq, Prod.mk.injEq] at h; omega
  | succ m ih =>
    intro b vs n h
    simp only [vsFrom] at h
    split at h
    · cases h
    · split at h
      · cases h
      · rename_i h2
        simp only [Option.some.injEq, Prod.mk.injEq] at h
        have h3 := ih _ h2
        have h4 := vFrom_le b
        rw [List.length_drop] at h3
        omega
theorem rFrom_eq {k : UInt8} {r : List UInt8} (h4 : ¬ 4 < k.toNat) : rFrom (k :: r) = match vsFrom k.toNat r with | none => ([], 0) | some (vs, n) => (vs, 1 + n) := by rw [rFrom, if_neg h4]; try (cases vsFrom k.toNat r <;> rfl)
theorem rFrom_le (b : List UInt8) : (rFrom b).2 ≤ b.length := by
  match b with
  | [] => exact Nat.le_refl _
  | k :: r =>
    by_cases h4 : 4 < k.toNat
    · rw [rFrom, if_pos h4]; simp
    · rw [rFrom_eq h4]
      cases h : vsFrom k.toNat r with
      | none => simp
      | some q =>
        have := vsFrom_le _ _ h
        simp only [List.length_cons]
        omega
-- find132
theorem run_rowFromS (d : Nat) (c : Bool) (b : List UInt8) (hb : b.length < 1099511627776) : retP (runD tab noExt (d + 6)) 132 [.sl c 1 (cellsOfBytes b)] = some [.sl false 3 ((rFrom b).1.map Val.cells), .int .i64 (rFrom b).2] := by
  match b, hb with
  | [], _ =>
    rw [retP, runD_eq find132 _ _ _ (by simp)]
    simp -implicitDefEqProofs (disch := omega) only [go_sem, Nat.reduceBEq, Nat.reduceAdd, Nat.reduceSub, Nat.reduceMul, Nat.reduceLeDiff, Nat.reduceEqDiff, Nat.reduceLT, Int.reduceNeg, Int.reduceAdd, Int.reduceSub, Int.reduceMul, Int.reduceLE, Int.reduceLT, Int.reduceEq, Int.reduceToNat, reduceCtorEq, cob_nil, rFrom, elemsOf, elemOf]
  | k :: r, hb =>
    have hk := k.toNat_lt
    have l0 : ((r.length : Int) + 1 = 0) = False := eq_false (by omega)
    by_cases h4 : 4 < k.toNat
    · have h4' : (4 : Int) < k.toNat := by omega
      rw [retP, runD_eq find132 _ _ _ (by simp)]
      simp -implicitDefEqProofs (disch := omega) only [go_sem, Nat.reduceBEq, Nat.reduceAdd, Nat.reduceSub, Nat.reduceMul, Nat.reduceLeDiff, Nat.reduceEqDiff, Nat.reduceLT, Int.reduceNeg, Int.reduceAdd, Int.reduceSub, Int.reduceMul, Int.reduceLE, Int.reduceLT, Int.reduceEq, Int.reduceToNat, reduceCtorEq, l0, cob_cons, cob_len, IntWalk.i64_in, rFrom, h4, h4', elemsOf, elemOf]
    · have h4' : ((4 : Int) < k.toNat) = False := eq_false (by omega)
      have hl := loop_rfS d c (k :: r) hb k.toNat (by omega) rfl k.toNat 0 1 [] (by omega) (by simp) rfl 1099511627775 (by omega)
      simp only [List.drop_succ_cons, List.drop_zero, List.map_nil, List.nil_append, Int.natCast_zero, Int.natCast_one, cob_cons] at hl
      rw [rFrom_eq h4]
      revert hl
      generalize hR : vsFrom k.toNat r = R
      intro hl
      rw [retP, runD_eq find132 _ _ _ (by simp)]
      simp -implicitDefEqProofs (disch := omega) only [go_sem, Nat.reduceBEq, Nat.reduceAdd, Nat.reduceSub, Nat.reduceMul, Nat.reduceLeDiff, Nat.reduceEqDiff, Nat.reduceLT, Int.reduceNeg, Int.reduceAdd, Int.reduceSub, Int.reduceMul, Int.reduceLE, Int.reduceLT, Int.reduceEq, Int.reduceToNat, reduceCtorEq, l0, cob_cons, cob_len, IntWalk.i64_in, h4', elemsOf, elemOf]
      cases R with
      | none =>
        obtain ⟨p', row', v, hl⟩ := hl
        try simp only at hl
        try simp -implicitDefEqProofs only [go_sem, Nat.reduceBEq, Nat.reduceAdd, Nat.reduceSub, Nat.reduceMul, Nat.reduceLeDiff, Nat.reduceEqDiff, Nat.reduceLT, Int.reduceNeg, Int.reduceAdd, Int.reduceSub, Int.reduceMul, Int.reduceLE, Int.reduceLT, Int.reduceEq, Int.reduceToNat, reduceCtorEq] at hl
        rw [hl]
        simp -implicitDefEqProofs (disch := omega) only [go_sem, Nat.reduceBEq, Nat.reduceAdd, Nat.reduceSub, Nat.reduceMul, Nat.reduceLeDiff, Nat.reduceEqDiff, Nat.reduceLT, Int.reduceNeg, Int.reduceAdd, Int.reduceSub, Int.reduceMul, Int.reduceLE, Int.reduceLT, Int.reduceEq, Int.reduceToNat, reduceCtorEq]
      | some q =>
        obtain ⟨vs, n⟩ := q
        try simp only at hl
        try simp -implicitDefEqProofs only [go_sem, Nat.reduceBEq, Nat.reduceAdd, Nat.reduceSub, Nat.reduceMul, Nat.reduceLeDiff, Nat.reduceEqDiff, Nat.reduceLT, Int.reduceNeg, Int.reduceAdd, Int.reduceSub, Int.reduceMul, Int.reduceLE, Int.reduceLT, Int.reduceEq, Int.reduceToNat, reduceCtorEq] at hl
        rw [hl]
        have hlen : vs.length = k.toNat := by
          exact vsFrom_len _ _ hR
        have ht : List.take k.toNat (vs.map Val.cells) = vs.map Val.cells := List.take_of_length_le (by rw [List.length_map]; omega)
        simp -implicitDefEqProofs (disch := omega) only [go_sem, Nat.reduceBEq, Nat.reduceAdd, Nat.reduceSub, Nat.reduceMul, Nat.reduceLeDiff, Nat.reduceEqDiff, Nat.reduceLT, Int.reduceNeg, Int.reduceAdd, Int.reduceSub, Int.reduceMul, Int.reduceLE, Int.reduceLT, Int.reduceEq, Int.reduceToNat, reduceCtorEq, ht]
-- find31
theorem own_rowFrom (d : Nat) (c : Bool) (b : List UInt8) (hb : b.length < 1099511627776) : ∃ v hc ids, runD tab noExt (d + 6) 31 [.sl c 1 (cellsOfBytes b)] [] = some ([v, .int .i64 (rFrom b).2], hc) ∧ OwnF hc (.sub fdValue) v (.sub ((rFrom b).1.map valU)) ids ∧ ids.Nodup := by
  match b, hb with
  | [], _ =>
    refine ⟨.sl true 3 [], [], [], ?_, own_nil rfl, List.nodup_nil⟩
    rw [runD_eq find31 _ _ _ (by simp)]
    simp -implicitDefEqProofs (disch := omega) only [go_sem, Nat.reduceBEq, Nat.reduceAdd, Nat.reduceSub, Nat.reduceMul, Nat.reduceLeDiff, Nat.reduceEqDiff, Nat.reduceLT, Int.reduceNeg, Int.reduceAdd, Int.reduceSub, Int.reduceMul, Int.reduceLE, Int.reduceLT, Int.reduceEq, Int.reduceToNat, reduceCtorEq, cob_nil, rFrom]
  | k :: r, hb =>
    have hk := k.toNat_lt
    have l0 : ((r.length : Int) + 1 = 0) = False := eq_false (by omega)
    by_cases h4 : 4 < k.toNat
    · have h4' : (4 : Int) < k.toNat := by omega
      have e : rFrom (k :: r) = ([], 0) := by rw [rFrom, if_pos h4]
      rw [e]
      refine ⟨.sl true 3 [], [], [], ?_, own_nil rfl, List.nodup_nil⟩
      rw [runD_eq find31 _ _ _ (by simp)]
      simp -implicitDefEqProofs (disch := omega) only [go_sem, Nat.reduceBEq, Nat.reduceAdd, Nat.reduceSub, Nat.reduceMul, Nat.reduceLeDiff, Nat.reduceEqDiff, Nat.reduceLT, Int.reduceNeg, Int.reduceAdd, Int.reduceSub, Int.reduceMul, Int.reduceLE, Int.reduceLT, Int.reduceEq, Int.reduceToNat, reduceCtorEq, l0, cob_cons, cob_len, IntWalk.i64_in, h4']
    · have h4' : ((4 : Int) < k.toNat) = False := eq_false (by omega)
      have hl := loop_rfI d c (k :: r) hb k.toNat (by omega) k.toNat 0 1 [] (by omega) (by simp) rfl 1099511627775 (by omega)
      simp only [List.drop_succ_cons, List.drop_zero, List.map_nil, List.nil_append, Int.natCast_zero, Int.natCast_one, cob_cons] at hl
      rw [rFrom_eq h4]
      revert hl
      generalize hR : vsFrom k.toNat r = R
      intro hl
      cases R with
      | none =>
        obtain ⟨p', row', hl⟩ := hl
        refine ⟨.sl true 3 [], [.rows row'.length 3 (row'.map Val.cells)], [], ?_, own_nil rfl, List.nodup_nil⟩
        rw [runD_eq find31 _ _ _ (by simp)]
        simp -implicitDefEqProofs (disch := omega) only [go_sem, Nat.reduceBEq, Nat.reduceAdd, Nat.reduceSub, Nat.reduceMul, Nat.reduceLeDiff, Nat.reduceEqDiff, Nat.reduceLT, Int.reduceNeg, Int.reduceAdd, Int.reduceSub, Int.reduceMul, Int.reduceLE, Int.reduceLT, Int.reduceEq, Int.reduceToNat, reduceCtorEq, l0, cob_cons, cob_len, IntWalk.i64_in, h4']
        try simp only at hl
        try simp -implicitDefEqProofs only [go_sem, Nat.reduceBEq, Nat.reduceAdd, Nat.reduceSub, Nat.reduceMul, Nat.reduceLeDiff, Nat.reduceEqDiff, Nat.reduceLT, Int.reduceNeg, Int.reduceAdd, Int.reduceSub, Int.reduceMul, Int.reduceLE, Int.reduceLT, Int.reduceEq, Int.reduceToNat, reduceCtorEq] at hl
        rw [hl]
        simp -implicitDefEqProofs (disch := omega) only [go_sem, Nat.reduceBEq, Nat.reduceAdd, Nat.reduceSub, Nat.reduceMul, Nat.reduceLeDiff, Nat.reduceEqDiff, Nat.reduceLT, Int.reduceNeg, Int.reduceAdd, Int.reduceSub, Int.reduceMul, Int.reduceLE, Int.reduceLT, Int.reduceEq, Int.reduceToNat, reduceCtorEq]
      | some q =>
        obtain ⟨vs, n⟩ := q
        have hlen := vsFrom_len _ _ hR
        have ht : List.take k.toNat (vs.map Val.cells) = vs.map Val.cells := List.take_of_length_le (by rw [List.length_map]; omega)
        obtain ⟨v1, hc, is0, q1, q2, q3⟩ := own_cloneVal (d + 3) false vs (by omega)
        obtain ⟨w, hw, js, k1, k2, k3, k4, k5, k6⟩ := own_call (h := [.rows k.toNat 3 (vs.map Val.cells)]) (args := [.ref 0 k.toNat 0 k.toNat false]) (by simp only [pureDAs, mapO, pureDA, pureD, deepest, List.getElem?_cons_zero, if_true, List.drop_zero, ht]) q1 q2 q3
        refine ⟨w, hw, js, ?_, k2, k3⟩
        rw [runD_eq find31 _ _ _ (by simp)]
        simp -implicitDefEqProofs (disch := omega) only [go_sem, Nat.reduceBEq, Nat.reduceAdd, Nat.reduceSub, Nat.reduceMul, Nat.reduceLeDiff, Nat.reduceEqDiff, Nat.reduceLT, Int.reduceNeg, Int.reduceAdd, Int.reduceSub, Int.reduceMul, Int.reduceLE, Int.reduceLT, Int.reduceEq, Int.reduceToNat, reduceCtorEq, l0, cob_cons, cob_len, IntWalk.i64_in, h4']
        try simp only at hl
        try simp -implicitDefEqProofs only [go_sem, Nat.reduceBEq, Nat.reduceAdd, Nat.reduceSub, Nat.reduceMul, Nat.reduceLeDiff, Nat.reduceEqDiff, Nat.reduceLT, Int.reduceNeg, Int.reduceAdd, Int.reduceSub, Int.reduceMul, Int.reduceLE, Int.reduceLT, Int.reduceEq, Int.reduceToNat, reduceCtorEq] at hl
        rw [hl]
        rcases own_cases k2 with ⟨cx, rfl⟩ | ⟨id, st, m, clip, rfl⟩ <;> simp -implicitDefEqProofs (disch := first | omega | assumption) only [go_sem, Nat.reduceBEq, Nat.reduceAdd, Nat.reduceSub, Nat.reduceMul, Nat.reduceLeDiff, Nat.reduceEqDiff, Nat.reduceLT, Int.reduceNeg, Int.reduceAdd, Int.reduceSub, Int.reduceMul, Int.reduceLE, Int.reduceLT, Int.reduceEq, Int.reduceToNat, reduceCtorEq, k1, resOk]
end Go.Proofs.Yteaojpfofifmnaa.PE
/- Frames read: the body of bytes. -/
set_option linter.unusedSimpArgs false
set_option linter.unusedVariables false
set_option maxHeartbeats 8000000
set_option maxRecDepth 20000
namespace Go.Proofs.Yteaojpfofifmnaa.PE
open Go.RowKit

def toI (l : List UInt8) : List Int := l.map fun b => (b.toNat : Int)
theorem cob_u8s (l : List UInt8) : cellsOfBytes l = u8s (toI l) := by simp [cellsOfBytes, u8s, toI]
theorem toI_len (l : List UInt8) : (toI l).length = l.length := List.length_map _
theorem toI_in (l : List UInt8) : ∀ x ∈ toI l, 0 ≤ x ∧ x < 256 := by
  intro x hx
  obtain ⟨b, _, rfl⟩ := List.mem_map.1 hx
  have := b.toNat_lt
  omega
def sumC (l : List UInt8) : Int := sumB (toI l)
theorem run_sumIC (d : Nat) (c : Bool) (l : List UInt8) (hl : l.length < 65536) : retP (runD tab noExt (d + 1)) 120 [.sl c 1 (cellsOfBytes l)] = some [.int .u8 (sumC l)] := by
  rw [cob_u8s]
  exact run_sumI d c (toI l) (by rw [toI_len]; exact hl) (toI_in l)
theorem run_sumSC (d : Nat) (c : Bool) (l : List UInt8) (hl : l.length < 65536) : retP (runD tab noExt (d + 1)) 65 [.sl c 1 (cellsOfBytes l)] = some [.int .u8 (sumC l)] := by
  rw [cob_u8s]
  exact run_sumS d c (toI l) (by rw [toI_len]; exact hl) (toI_in l)
/-- The body that bytes begin with: how many bytes it has and what they are. -/
def unF : List UInt8 → Option (List UInt8 × Nat)
  | x :: y :: r => if r.length < 256 * x.toNat + y.toNat + 1 then none else if sumC (r.take (256 * x.toNat + y.toNat)) = ((r.getD (256 * x.toNat + y.toNat) 0).toNat : Int) then some (r.take (256 * x.toNat + y.toNat), 256 * x.toNat + y.toNat + 3) else none
  | _ => none
-- find75
theorem run_unframed (d : Nat) (c : Bool) (b : List UInt8) (hb : b.length < 1099511627776) : ∃ c', retP (runD tab noExt (d + 2)) 75 [.sl c 1 (cellsOfBytes b)] = some (match unF b with | none => [.sl true 1 [], .int .i64 0] | some (l, n) => [.sl c' 1 (cellsOfBytes l), .int .i64 n]) := by
  match b, hb with
  | [], _ =>
    refine ⟨true, ?_⟩
    rw [retP, runD_eq find75 _ _ _ (by simp)]
    simp -implicitDefEqProofs (disch := omega) only [go_sem, Nat.reduceBEq, Nat.reduceAdd, Nat.reduceSub, Nat.reduceMul, Nat.reduceLeDiff, Nat.reduceEqDiff, Nat.reduceLT, Int.reduceNeg, Int.reduceAdd, Int.reduceSub, Int.reduceMul, Int.reduceLE, Int.reduceLT, Int.reduceEq, Int.reduceToNat, reduceCtorEq, cob_nil, unF]
  | [x], _ =>
    refine ⟨true, ?_⟩
    rw [retP, runD_eq find75 _ _ _ (by simp)]
    simp -implicitDefEqProofs (disch := omega) only [go_sem, Nat.reduceBEq, Nat.reduceAdd, Nat.reduceSub, Nat.reduceMul, Nat.reduceLeDiff, Nat.reduceEqDiff, Nat.reduceLT, Int.reduceNeg, Int.reduceAdd, Int.reduceSub, Int.reduceMul, Int.reduceLE, Int.reduceLT, Int.reduceEq, Int.reduceToNat, reduceCtorEq, cob_cons, cob_nil, unF]
  | x :: y :: r, hb =>
    have hx := x.toNat_lt
    have hy := y.toNat_lt
    have hn : (x.toNat : Int) * 256 + y.toNat = (256 * x.toNat + y.toNat : Nat) := by omega
    by_cases h3 : (r.length : Int) + 2 < 3
    · refine ⟨true, ?_⟩
      rw [unF, if_pos (by omega)]
      rw [retP, runD_eq find75 _ _ _ (by simp)]
      simp -implicitDefEqProofs (disch := omega) only [go_sem, Nat.reduceBEq, Nat.reduceAdd, Nat.reduceSub, Nat.reduceMul, Nat.reduceLeDiff, Nat.reduceEqDiff, Nat.reduceLT, Int.reduceNeg, Int.reduceAdd, Int.reduceSub, Int.reduceMul, Int.reduceLE, Int.reduceLT, Int.reduceEq, Int.reduceToNat, reduceCtorEq, cob_cons, cob_len, h3]
    · have h3' := eq_false h3
      generalize hN : 256 * x.toNat + y.toNat = n at hn
      have hn6 : n < 65536 := by omega
      by_cases h4 : r.length < n + 1
      · have h4' : (r.length : Int) + 2 < (n : Int) + 3 := by omega
        refine ⟨true, ?_⟩
        rw [unF, hN, if_pos h4]
        rw [retP, runD_eq find75 _ _ _ (by simp)]
        simp -implicitDefEqProofs (disch := omega) only [go_sem, Nat.reduceBEq, Nat.reduceAdd, Nat.reduceSub, Nat.reduceMul, Nat.reduceLeDiff, Nat.reduceEqDiff, Nat.reduceLT, Int.reduceNeg, Int.reduceAdd, Int.reduceSub, Int.reduceMul, Int.reduceLE, Int.reduceLT, Int.reduceEq, Int.reduceToNat, reduceCtorEq, evC_draw, evD75x0, E75x0, evC_draw, evD75x1, E75x1, cob_cons, cob_len, IntWalk.i64_in, pow8', hn, h3', h4']
      · have h4' : ((r.length : Int) + 2 < (n : Int) + 3) = False := eq_false (by omega)
        have hs : ∀ c, retP (runD tab noExt (d + 1)) 120 [.sl c 1 (cellsOfBytes (r.take n))] = some [.int .u8 (sumC (r.take n))] := fun c => run_sumIC d c (r.take n) (by rw [List.length_take]; omega)
        have hx1 : (cellsOfBytes r)[n]? = some [.int .u8 (r.getD n 0).toNat] := by
          rw [List.getD_eq_getElem?_getD, List.getElem?_eq_getElem (show n < r.length by omega)]
          exact ofBytes_at (List.getElem?_eq_getElem (by omega))
        have f1 : (0 ≤ (n : Int) + 2 ∧ (n : Int) + 2 ≤ (r.length : Int) + 2) = True := eq_true (by omega)
        have f2 : ((2 : Int) ≤ (n : Int) + 2) = True := eq_true (by omega)
        have f3 : ((n : Int) + 2).toNat - 2 = n := by omega
        have f4 : ((n : Int) + 2).toNat = n + 2 := by omega
        have f5 : (0 ≤ (n : Int) + 2 ∧ (n : Int) + 2 < (r.length : Int) + 2) = True := eq_true (by omega)
        have f6 : ((n : Int) + 2 ≤ (r.length : Int) + 2) = True := eq_true (by omega)
        have f7 : ((n : Int) + 2 < (r.length : Int) + 2) = True := eq_true (by omega)
        have f8 : (0 ≤ (n : Int) + 2) = True := eq_true (by omega)
        have e : unF (x :: y :: r) = if sumC (r.take n) = ((r.getD n 0).toNat : Int) then some (r.take n, n + 3) else none := by rw [unF, hN, if_neg h4]
        rw [e]
        by_cases hq : sumC (r.take n) = ((r.getD n 0).toNat : Int)
        · refine ⟨c && decide ((n : Int) + 2 = r.length + 2), ?_⟩
          rw [if_pos hq, retP, runD_eq find75 _ _ _ (by simp)]
          simp -implicitDefEqProofs (disch := omega) only [go_sem, Nat.reduceBEq, Nat.reduceAdd, Nat.reduceSub, Nat.reduceMul, Nat.reduceLeDiff, Nat.reduceEqDiff, Nat.reduceLT, Int.reduceNeg, Int.reduceAdd, Int.reduceSub, Int.reduceMul, Int.reduceLE, Int.reduceLT, Int.reduceEq, Int.reduceToNat, reduceCtorEq, evC_draw, evD75x0, E75x0, evC_draw, evD75x1, E75x1, cob_cons, cob_len, cob_take, cob_drop, IntWalk.i64_in, pow8', hn, h3', h4', hs, hx1, f1, f2, f3, f4, f5, f6, f7, f8, Nat.add_sub_cancel, hq]
        · refine ⟨true, ?_⟩
          have hq' : (sumC (r.take n) = ((r.getD n 0).toNat : Int)) = False := eq_false hq
          rw [if_neg hq, retP, runD_eq find75 _ _ _ (by simp)]
          simp -implicitDefEqProofs (disch := omega) only [go_sem, Nat.reduceBEq, Nat.reduceAdd, Nat.reduceSub, Nat.reduceMul, Nat.reduceLeDiff, Nat.reduceEqDiff, Nat.reduceLT, Int.reduceNeg, Int.reduceAdd, Int.reduceSub, Int.reduceMul, Int.reduceLE, Int.reduceLT, Int.reduceEq, Int.reduceToNat, reduceCtorEq, evC_draw, evD75x0, E75x0, evC_draw, evD75x1, E75x1, cob_cons, cob_len, cob_take, cob_drop, IntWalk.i64_in, pow8', hn, h3', h4', hs, hx1, f1, f2, f3, f4, f5, f6, f7, f8, Nat.add_sub_cancel, hq']
end Go.Proofs.Yteaojpfofifmnaa.PE
/- What is read is written back as the bytes that it took. -/
set_option linter.unusedSimpArgs false
set_option linter.unusedVariables false
namespace Go.Proofs.Yteaojpfofifmnaa.PE
open Go.RowKit

theorem toI_cons (k : UInt8) (r : List UInt8) : toI (k :: r) = (k.toNat : Int) :: toI r := rfl
theorem vChk_some {v : Val} {n : Nat} (h : (vChk v n).2 ≠ 0) : v.ok = true ∧ vChk v n = (v, n) := by
  unfold vChk at h ⊢
  split at h
  · rename_i ho; rw [if_pos ho]; exact ⟨ho, rfl⟩
  · exact absurd rfl h
theorem zero_ok : Val.zero.ok = true := by decide
theorem vFrom_bytes : ∀ (b : List UInt8), (vFrom b).2 ≠ 0 → (vFrom b).1.ok = true ∧ toI (b.take (vFrom b).2) = (vFrom b).1.bytes
  | [], h => absurd rfl h
  | [k], h => by
    simp only [vFrom] at h ⊢
    by_cases k0 : k.toNat = 0
    · rw [if_pos k0]
      refine ⟨zero_ok, ?_⟩
      show [(k.toNat : Int)] = [0]
      rw [k0]; rfl
    · rw [if_neg k0] at h; exact absurd rfl h
  | k :: x :: r, h => by
    simp only [vFrom] at h ⊢
    by_cases k0 : k.toNat = 0
    · rw [if_pos k0]
      refine ⟨zero_ok, ?_⟩
      show [(k.toNat : Int)] = [0]
      rw [k0]; rfl
    rw [if_neg k0] at h ⊢
    by_cases k1 : k.toNat = 1
    · rw [if_pos k1] at h ⊢
      match r, h with
      | [], h => exact absurd rfl h
      | y :: r, h =>
        simp only at h ⊢
        obtain ⟨h1, h2⟩ := vChk_some h
        have hx := x.toNat_lt
        have hy := y.toNat_lt
        rw [h2]
        refine ⟨h1, ?_⟩
        show [(k.toNat : Int), x.toNat, y.toNat] = [1, ((x.toNat : Int) * 256 + y.toNat - 10000 + 10000) / 256, ((x.toNat : Int) * 256 + y.toNat - 10000 + 10000) % 256]
        have e1 : ((x.toNat : Int) * 256 + y.toNat - 10000 + 10000) / 256 = x.toNat := by omega
        have e2 : ((x.toNat : Int) * 256 + y.toNat - 10000 + 10000) % 256 = y.toNat := by omega
        rw [e1, e2, k1]; rfl
    rw [if_neg k1] at h ⊢
    by_cases k2 : k.toNat = 2
    · rw [if_pos k2] at h ⊢
      by_cases hxr : x.toNat ≤ r.length
      · rw [if_pos hxr] at h ⊢
        obtain ⟨h1, h2⟩ := vChk_some h
        rw [h2]
        refine ⟨h1, ?_⟩
        show toI ((k :: x :: r).take (2 + x.toNat)) = 2 :: ((toS (r.take x.toNat)).size : Int) :: strB (toS (r.take x.toNat))
        have e : (k :: x :: r).take (2 + x.toNat) = k :: x :: r.take x.toNat := by rw [Nat.add_comm]; rfl
        rw [e, toI_cons, toI_cons, toS_size, k2, List.length_take, Nat.min_eq_left hxr]
        rfl
      · rw [if_neg hxr] at h; exact absurd rfl h
    rw [if_neg k2] at h ⊢
    by_cases k3 : k.toNat = 3
    · rw [if_pos k3] at h ⊢
      obtain ⟨h1, h2⟩ := vChk_some h
      rw [h2]
      refine ⟨h1, ?_⟩
      show [(k.toNat : Int), (x.toNat : Int)] = [3, (x.toNat : Int)]
      rw [k3]; rfl
    · rw [if_neg k3] at h; exact absurd rfl h
theorem toI_app (a b : List UInt8) : toI (a ++ b) = toI a ++ toI b := List.map_append
theorem take_add' {α : Type} (l : List α) (n m : Nat) : l.take (n + m) = l.take n ++ (l.drop n).take m := List.take_add
theorem vsFrom_bytes : ∀ (m : Nat) (b : List UInt8) {vs : List Val} {n : Nat}, vsFrom m b = some (vs, n) → (∀ v ∈ vs, v.ok = true) ∧ toI (b.take n) = vs.flatMap Val.bytes
  | 0, b, vs, n, h => by
    simp only [vsFrom, Option.some.injEq, Prod.mk.injEq] at h
    obtain ⟨rfl, rfl⟩ := h
    exact ⟨(fun v hv => by cases hv), rfl⟩
  | m + 1, b, vs, n, h => by
    simp only [vsFrom] at h
    split at h
    · cases h
    · rename_i h0
      split at h
      · cases h
      · rename_i vs' n' h2
        simp only [Option.some.injEq, Prod.mk.injEq] at h
        obtain ⟨rfl, rfl⟩ := h
        obtain ⟨g1, g2⟩ := vFrom_bytes b h0
        obtain ⟨g3, g4⟩ := vsFrom_bytes m _ h2
        refine ⟨fun v hv => ?_, ?_⟩
        · rcases List.mem_cons.1 hv with rfl | hv
          · exact g1
          · exact g3 v hv
        · rw [take_add', toI_app, g2, g4, List.flatMap_cons]
theorem rFrom_bytes (b : List UInt8) (h : (rFrom b).2 ≠ 0) : rowOk (rFrom b).1 = true ∧ toI (b.take (rFrom b).2) = rowBytes (rFrom b).1 := by
  match b, h with
  | [], h => exact absurd rfl h
  | k :: r, h =>
    by_cases h4 : 4 < k.toNat
    · rw [rFrom, if_pos h4] at h; exact absurd rfl h
    · rw [rFrom_eq h4] at h ⊢
      cases hv : vsFrom k.toNat r with
      | none => rw [hv] at h; exact absurd rfl h
      | some q =>
        obtain ⟨vs, n⟩ := q
        obtain ⟨g1, g2⟩ := vsFrom_bytes _ _ hv
        have hl := vsFrom_len _ _ hv
        simp only
        refine ⟨?_, ?_⟩
        · simp only [rowOk, Bool.and_eq_true, List.all_eq_true, decide_eq_true_eq]
          exact ⟨g1, by omega⟩
        · have e : (k :: r).take (1 + n) = k :: r.take n := by rw [Nat.add_comm]; rfl
          rw [e, toI_cons, g2, rowBytes_eq, hl]
end Go.Proofs.Yteaojpfofifmnaa.PE
/- Writes read out of bytes: with the check of the sign (the reference) and without (the program), which writes back and compares. -/
set_option linter.unusedSimpArgs false
set_option linter.unusedVariables false
namespace Go.Proofs.Yteaojpfofifmnaa.PE
open Go.RowKit

def wrOf (x y : UInt8) (r : List UInt8) : Wr := ⟨x.toNat, ⟨false, (rFrom r).1⟩, decide (y.toNat = 1)⟩
def wsS : Nat → List UInt8 → Option (List Wr × Nat)
  | 0, _ => some ([], 0)
  | m + 1, x :: y :: r => if 1 < y.toNat then none else if (rFrom r).2 = 0 then none else match wsS m (r.drop (rFrom r).2) with
    | none => none
    | some (ws, n) => some (wrOf x y r :: ws, (rFrom r).2 + n + 2)
  | _ + 1, _ => none
def wsI : Nat → List UInt8 → Option (List Wr × Nat)
  | 0, _ => some ([], 0)
  | m + 1, x :: y :: r => if (rFrom r).2 = 0 then none else match wsI m (r.drop (rFrom r).2) with
    | none => none
    | some (ws, n) => some (wrOf x y r :: ws, (rFrom r).2 + n + 2)
  | _ + 1, _ => none
theorem wsS_wsI : ∀ (m : Nat) (b : List UInt8) {q : List Wr × Nat}, wsS m b = some q → wsI m b = some q
  | 0, b, q, h => h
  | m + 1, [], q, h => h
  | m + 1, [x], q, h => h
  | m + 1, x :: y :: r, q, h => by
    simp only [wsS] at h
    simp only [wsI]
    split at h
    · cases h
    split at h
    · cases h
    rename_i h0
    rw [if_neg h0]
    split at h
    · cases h
    rename_i ws n h2
    rw [wsS_wsI m _ h2]
    exact h
theorem head_bytes {x y : UInt8} {r : List UInt8} {n : Nat} (h0 : (rFrom r).2 ≠ 0) : toI ((x :: y :: r).take ((rFrom r).2 + n + 2)) = (x.toNat : Int) :: (y.toNat : Int) :: (rowBytes (rFrom r).1 ++ toI ((r.drop (rFrom r).2).take n)) := by
  have e : (x :: y :: r).take ((rFrom r).2 + n + 2) = x :: y :: r.take ((rFrom r).2 + n) := rfl
  rw [e, toI_cons, toI_cons, take_add', toI_app, (rFrom_bytes r h0).2]
theorem wsS_bytes : ∀ (m : Nat) (b : List UInt8) {ws : List Wr} {n : Nat}, wsS m b = some (ws, n) → toI (b.take n) = ws.flatMap wrBytes
  | 0, b, ws, n, h => by
    simp only [wsS, Option.some.injEq, Prod.mk.injEq] at h
    obtain ⟨rfl, rfl⟩ := h
    rfl
  | m + 1, [], ws, n, h => by cases h
  | m + 1, [x], ws, n, h => by cases h
  | m + 1, x :: y :: r, ws, n, h => by
    simp only [wsS] at h
    split at h
    · cases h
    rename_i hy
    split at h
    · cases h
    rename_i h0
    split at h
    · cases h
    rename_i ws' n' h2
    simp only [Option.some.injEq, Prod.mk.injEq] at h
    obtain ⟨rfl, rfl⟩ := h
    have hg : goneI (decide (y.toNat = 1)) = (y.toNat : Int) := by
      by_cases h1 : y.toNat = 1
      · rw [decide_eq_true h1, h1]; rfl
      · rw [decide_eq_false h1]
        have : y.toNat = 0 := by omega
        rw [this]; rfl
    rw [head_bytes h0, wsS_bytes m _ h2, List.flatMap_cons]
    show _ = ((x.toNat : Int) :: goneI (decide (y.toNat = 1)) :: rowBytes (rFrom r).1) ++ _
    rw [hg]
    rfl
theorem wsI_back : ∀ (m : Nat) (b : List UInt8) {ws : List Wr} {n : Nat}, wsI m b = some (ws, n) → toI (b.take n) = ws.flatMap wrBytes → wsS m b = some (ws, n)
  | 0, b, ws, n, h, _ => h
  | m + 1, [], ws, n, h, _ => h
  | m + 1, [x], ws, n, h, _ => h
  | m + 1, x :: y :: r, ws, n, h, hb => by
    simp only [wsI] at h
    simp only [wsS]
    split at h
    · cases h
    rename_i h0
    split at h
    · cases h
    rename_i ws' n' h2
    simp only [Option.some.injEq, Prod.mk.injEq] at h
    obtain ⟨rfl, rfl⟩ := h
    rw [head_bytes h0, List.flatMap_cons] at hb
    have hb' : (x.toNat : Int) :: (y.toNat : Int) :: (rowBytes (rFrom r).1 ++ toI ((r.drop (rFrom r).2).take n')) = (x.toNat : Int) :: goneI (decide (y.toNat = 1)) :: (rowBytes (rFrom r).1 ++ ws'.flatMap wrBytes) := hb
    simp only [List.cons.injEq, true_and] at hb'
    obtain ⟨hy, ht⟩ := hb'
    have hy2 : ¬ 1 < y.toNat := by
      intro h
      rw [decide_eq_false (by omega)] at hy
      have : (y.toNat : Int) = 0 := hy
      omega
    rw [if_neg hy2, if_neg h0, wsI_back m _ h2 (List.append_cancel_left ht)]
theorem wsI_len : ∀ (m : Nat) (b : List UInt8) {ws : List Wr} {n : Nat}, wsI m b = some (ws, n) → ws.length = m ∧ n ≤ b.length
  | 0, b, ws, n, h => by
    simp only [wsI, Option.some.injEq, Prod.mk.injEq] at h
    obtain ⟨rfl, rfl⟩ := h
    exact ⟨rfl, Nat.zero_le _⟩
  | m + 1, [], ws, n, h => by cases h
  | m + 1, [x], ws, n, h => by cases h
  | m + 1, x :: y :: r, ws, n, h => by
    simp only [wsI] at h
    split at h
    · cases h
    split at h
    · cases h
    rename_i ws' n' h2
    simp only [Option.some.injEq, Prod.mk.injEq] at h
    obtain ⟨rfl, rfl⟩ := h
    obtain ⟨g1, g2⟩ := wsI_len m _ h2
    have g3 := rFrom_le r
    rw [List.length_drop] at g2
    exact ⟨by rw [List.length_cons, g1], by simp only [List.length_cons]; omega⟩
end Go.Proofs.Yteaojpfofifmnaa.PE
/- Bytes of entries: what both functions tell, for the exact statement. -/
set_option linter.unusedSimpArgs false
set_option linter.unusedVariables false
namespace Go.Proofs.Yteaojpfofifmnaa.PE
open Go.RowKit

theorem bodyB_own (e : Ent) : bodyB e.own = bodyB e := by
  have : (e.ws.map Wr.own).flatMap wrBytes = e.ws.flatMap wrBytes := by rw [List.flatMap_map]; rfl
  rw [bodyB_eq, bodyB_eq]
  show e.time :: ((e.ws.map Wr.own).length : Int) :: (e.ws.map Wr.own).flatMap wrBytes = _
  rw [this, List.length_map]
theorem entBytes_own (e : Ent) : entBytes e.own = entBytes e := by
  have : logOk [e.own] = logOk [e] := logOk_own [e]
  rw [entBytes, entBytes, this, bodyB_own]
theorem entBytes_vs {a b : Ent} (h : entU a = entU b) : entBytes a = entBytes b := by rw [← entBytes_own a, ← entBytes_own b, entU_inj h]
theorem frB_len (b : List Int) : (frB b).length = b.length + 3 := by simp [frB]
theorem entBytes_len (e : Ent) : (entBytes e).length ≤ 180 := by
  unfold entBytes
  split
  · rename_i h
    have := body_len h
    rw [frB_len]
    omega
  · simp
theorem by_len (l : List Int) : (byU l).length = l.length := List.length_map _
theorem by_pur (c : Bool) (l : List Int) : PurF (.sub fdByte) (.sl c 1 (u8s l)) (.sub (byU l)) := pur_map (fun n => purR_mk_Byte n) c 1 rfl l
theorem by_lenF {n m : Nat} {l : List Int} (h : l.length ≤ n) : LenF n m (.sub fdByte) (.sub (byU l)) := by
  simp only [LenF]
  exact ⟨by rw [by_len]; exact h, all_flat (by simp [fdByte]) _⟩
end Go.Proofs.Yteaojpfofifmnaa.PE
/- An entry read out of bytes: to write it back and compare is to check the signs and the end. -/
set_option linter.unusedSimpArgs false
set_option linter.unusedVariables false
namespace Go.Proofs.Yteaojpfofifmnaa.PE
open Go.RowKit

theorem rowBytes_flen {r : List UInt8} (h0 : (rFrom r).2 ≠ 0) : (rowBytes (rFrom r).1).length = (rFrom r).2 := by
  rw [← (rFrom_bytes r h0).2, toI_len, List.length_take]
  have := rFrom_le r
  omega
theorem wsI_flen : ∀ (m : Nat) (b : List UInt8) {ws : List Wr} {n : Nat}, wsI m b = some (ws, n) → (ws.flatMap wrBytes).length = n
  | 0, b, ws, n, h => by
    simp only [wsI, Option.some.injEq, Prod.mk.injEq] at h
    obtain ⟨rfl, rfl⟩ := h
    rfl
  | m + 1, [], ws, n, h => by cases h
  | m + 1, [x], ws, n, h => by cases h
  | m + 1, x :: y :: r, ws, n, h => by
    simp only [wsI] at h
    split at h
    · cases h
    rename_i h0
    split at h
    · cases h
    rename_i ws' n' h2
    simp only [Option.some.injEq, Prod.mk.injEq] at h
    obtain ⟨rfl, rfl⟩ := h
    have g := wsI_flen m _ h2
    have g2 := rowBytes_flen h0
    rw [List.flatMap_cons, List.length_append, g]
    have : (wrBytes (wrOf x y r)).length = (rowBytes (rFrom r).1).length + 2 := rfl
    omega
theorem unF_some {b body : List UInt8} {n : Nat} (h : unF b = some (body, n)) : n = body.length + 3 ∧ n ≤ b.length ∧ toI (b.take n) = ((body.length : Int) / 256) :: ((body.length : Int) % 256) :: (toI body ++ [sumB (toI body)]) := by
  match b, h with
  | [], h => cases h
  | [x], h => cases h
  | x :: y :: r, h =>
    have hx := x.toNat_lt
    have hy := y.toNat_lt
    rw [unF] at h
    generalize hN : 256 * x.toNat + y.toNat = N at h
    split at h
    · cases h
    split at h
    · rename_i h1 h2
      simp only [Option.some.injEq, Prod.mk.injEq] at h
      obtain ⟨rfl, rfl⟩ := h
      have hl : (r.take N).length = N := by rw [List.length_take]; omega
      rw [hl]
      refine ⟨rfl, by simp only [List.length_cons]; omega, ?_⟩
      have e : (x :: y :: r).take (N + 3) = x :: y :: r.take (N + 1) := rfl
      have e2 : r.take (N + 1) = r.take N ++ [r.getD N 0] := by
        rw [List.getD_eq_getElem?_getD, List.getElem?_eq_getElem (show N < r.length by omega)]
        exact List.take_succ_eq_append_getElem (by omega)
      have e3 : (N : Int) / 256 = x.toNat := by omega
      have e4 : (N : Int) % 256 = y.toNat := by omega
      rw [e, e2, toI_cons, toI_cons, toI_app, e3, e4]
      show _ :: _ :: (toI (r.take N) ++ [((r.getD N 0).toNat : Int)]) = _
      rw [← h2]
      rfl
    · cases h
theorem back_iff {b : List UInt8} {t m : UInt8} {rest : List UInt8} {n k : Nat} {c : Bool} {ws : List Wr} (h : unF b = some (t :: m :: rest, n)) (hw : wsI m.toNat rest = some (ws, k)) :
    (entBytes ⟨t.toNat, c, ws⟩ = toI (b.take n)) ↔ (wsS m.toNat rest = some (ws, k) ∧ k = rest.length ∧ logOk [⟨t.toNat, c, ws⟩] = true) := by
  obtain ⟨u1, u2, u3⟩ := unF_some h
  obtain ⟨l1, l2⟩ := wsI_len _ _ hw
  have fl := wsI_flen _ _ hw
  rw [u3]
  unfold entBytes
  cases ho : logOk [⟨t.toNat, c, ws⟩]
  · simp
  · simp only [if_true, and_true, frB]
    have hb : bodyB ⟨t.toNat, c, ws⟩ = (t.toNat : Int) :: (m.toNat : Int) :: ws.flatMap wrBytes := by rw [bodyB_eq]; simp only [l1]
    constructor
    · intro he
      simp only [List.cons.injEq] at he
      have h1 := List.append_inj_left' he.2.2 rfl
      rw [hb, toI_cons, toI_cons] at h1
      simp only [List.cons.injEq, true_and] at h1
      have hk : k = rest.length := by
        have := congrArg List.length h1
        rw [fl, toI_len] at this
        exact this
      refine ⟨wsI_back _ _ hw ?_, hk⟩
      rw [hk, List.take_length, h1]
    · rintro ⟨h1, h2⟩
      have h3 := wsS_bytes _ _ h1
      rw [h2, List.take_length] at h3
      have h4 : bodyB ⟨t.toNat, c, ws⟩ = toI (t :: m :: rest) := by rw [hb, ← h3]; rfl
      rw [h4, toI_len]
end Go.Proofs.Yteaojpfofifmnaa.PE
/- An entry read out of bytes, in plain words. -/
set_option linter.unusedSimpArgs false
set_option linter.unusedVariables false
namespace Go.Proofs.Yteaojpfofifmnaa.PE
open Go.RowKit

def entZ : Ent := ⟨0, true, []⟩
def readS : List UInt8 → Option Ent
  | t :: m :: rest => match wsS m.toNat rest with
    | none => none
    | some (ws, k) => if k = rest.length ∧ logOk [⟨t.toNat, ws.isEmpty, ws⟩] = true then some ⟨t.toNat, ws.isEmpty, ws⟩ else none
  | _ => none
def eFrom (b : List UInt8) : Ent × Nat := match unF b with
  | none => (entZ, 0)
  | some (body, n) => match readS body with
    | none => (entZ, 0)
    | some e => (e, n)
theorem wsI_rows : ∀ (m : Nat) (b : List UInt8) {ws : List Wr} {n : Nat}, wsI m b = some (ws, n) → ∀ w ∈ ws, rowOk w.row.vs = true
  | 0, b, ws, n, h => by
    simp only [wsI, Option.some.injEq, Prod.mk.injEq] at h
    obtain ⟨rfl, rfl⟩ := h
    intro w hw
    cases hw
  | m + 1, [], ws, n, h => by cases h
  | m + 1, [x], ws, n, h => by cases h
  | m + 1, x :: y :: r, ws, n, h => by
    simp only [wsI] at h
    split at h
    · cases h
    rename_i h0
    split at h
    · cases h
    rename_i ws' n' h2
    simp only [Option.some.injEq, Prod.mk.injEq] at h
    obtain ⟨rfl, rfl⟩ := h
    intro w hw
    rcases List.mem_cons.1 hw with rfl | hw
    · exact (rFrom_bytes r h0).1
    · exact wsI_rows m _ h2 w hw
theorem wrows_lim {ws : List Wr} (hl : ws.length ≤ 1048576) (h : ∀ w ∈ ws, rowOk w.row.vs = true) (t : Int) (c : Bool) : LimE [⟨t, c, ws⟩] := by
  refine ⟨by simp, fun e he => ?_⟩
  rw [List.mem_singleton.1 he]
  refine ⟨hl, fun w hw => ?_⟩
  obtain ⟨h1, h2⟩ := rowOk_at (h w hw)
  exact ⟨by omega, fun v hv => by have := ok_size (h1 v hv); omega⟩
theorem wsI_lim {m : Nat} {b : List UInt8} {ws : List Wr} {n : Nat} (hm : m ≤ 255) (h : wsI m b = some (ws, n)) (t : Int) (c : Bool) : LimE [⟨t, c, ws⟩] :=
  wrows_lim (by have := (wsI_len _ _ h).1; omega) (wsI_rows m b h) t c
theorem readS_some {b : List UInt8} {e : Ent} (h : readS b = some e) : logOk [e] = true ∧ LimE [e] ∧ bodyB e = toI b := by
  match b, h with
  | [], h => cases h
  | [x], h => cases h
  | t :: m :: rest, h =>
    have hm := m.toNat_lt
    simp only [readS] at h
    split at h
    · cases h
    rename_i ws k hw
    split at h
    · rename_i hk
      simp only [Option.some.injEq] at h
      subst h
      obtain ⟨h1, h2⟩ := hk
      have hi := wsS_wsI _ _ hw
      refine ⟨h2, wsI_lim (by omega) hi _ _, ?_⟩
      have h3 := wsS_bytes _ _ hw
      rw [h1, List.take_length] at h3
      rw [bodyB_eq]
      show (t.toNat : Int) :: (ws.length : Int) :: ws.flatMap wrBytes = _
      rw [← h3, (wsI_len _ _ hi).1]
      rfl
    · cases h
theorem eFrom_some {b : List UInt8} (h : (eFrom b).2 ≠ 0) : ∃ body, unF b = some (body, (eFrom b).2) ∧ readS body = some (eFrom b).1 := by
  unfold eFrom at h ⊢
  cases h1 : unF b with
  | none => rw [h1] at h; exact absurd rfl h
  | some q =>
    obtain ⟨body, n⟩ := q
    rw [h1] at h
    simp only at h ⊢
    cases h2 : readS body with
    | none => rw [h2] at h; exact absurd rfl h
    | some e => exact ⟨body, rfl, h2⟩
theorem eFrom_none {b : List UInt8} (h : (eFrom b).2 = 0) : (eFrom b).1 = entZ := by
  unfold eFrom at h ⊢
  cases h1 : unF b with
  | none => rfl
  | some q =>
    obtain ⟨body, n⟩ := q
    rw [h1] at h
    simp only at h ⊢
    cases h2 : readS body with
    | none => rfl
    | some e =>
      rw [h2] at h
      have := (unF_some h1).1
      simp only at h
      omega
/-- What is read as an entry is written back as the bytes that it took. -/
theorem eFrom_bytes {b : List UInt8} (h : (eFrom b).2 ≠ 0) : logOk [(eFrom b).1] = true ∧ LimE [(eFrom b).1] ∧ toI (b.take (eFrom b).2) = entBytes (eFrom b).1 ∧ (eFrom b).2 ≤ b.length := by
  obtain ⟨body, h1, h2⟩ := eFrom_some h
  obtain ⟨g1, g2, g3⟩ := readS_some h2
  obtain ⟨u1, u2, u3⟩ := unF_some h1
  refine ⟨g1, g2, ?_, u2⟩
  rw [u3, entBytes, if_pos g1, frB, g3, toI_len]
theorem entZ_lim : LimE [entZ] := by
  refine ⟨by simp, fun e he => ?_⟩
  rw [List.mem_singleton.1 he]
  exact ⟨by simp [entZ], fun w hw => by cases hw⟩
theorem eFrom_lim (b : List UInt8) : LimE [(eFrom b).1] := by
  by_cases h : (eFrom b).2 = 0
  · rw [eFrom_none h]; exact entZ_lim
  · exact (eFrom_bytes h).2.1
theorem eFrom_le (b : List UInt8) : (eFrom b).2 ≤ b.length := by
  by_cases h : (eFrom b).2 = 0
  · omega
  · exact (eFrom_bytes h).2.2.2
theorem two_at {b : List UInt8} {p : Nat} {x y : UInt8} {r : List UInt8} (h : b.drop p = x :: y :: r) : p + 2 + r.length = b.length ∧ (cellsOfBytes b)[p]? = some [.int .u8 x.toNat] ∧ (cellsOfBytes b)[p + 1]? = some [.int .u8 y.toNat] ∧ b.drop (p + 2) = r := by
  have h1 : b[p]? = some x := by
    have := congrArg (fun l : List UInt8 => l[0]?) h
    simpa [List.getElem?_drop] using this
  have h2 : b[p + 1]? = some y := by
    have := congrArg (fun l : List UInt8 => l[1]?) h
    simpa [List.getElem?_drop] using this
  have h3 := congrArg List.length h
  rw [List.length_drop] at h3
  simp only [List.length_cons] at h3
  refine ⟨by omega, ofBytes_at h1, ofBytes_at h2, ?_⟩
  rw [← List.drop_drop, h]
  rfl
end Go.Proofs.Yteaojpfofifmnaa.PE
/- A body read: the reference's loop. -/
set_option linter.unusedSimpArgs false
set_option linter.unusedVariables false
set_option maxHeartbeats 8000000
set_option maxRecDepth 20000
namespace Go.Proofs.Yteaojpfofifmnaa.PE
open Go.RowKit

def wPtr (ws : List Wr) : V := match ws with
  | [] => .sl true 3 []
  | _ :: r => .ref 2 r.length 0 (r.length + 1) false
def wTail (ws : List Wr) : Heap := match ws with
  | [] => []
  | w :: r => [.rows r.length 3 ((w :: r).map Wr.cells)]
def wHeap (t : Int) (ws : List Wr) : Heap := .box [.int .i64 0, .sl true 3 []] :: .box [.int .i64 t, wPtr ws] :: wTail ws
-- find91
theorem step_rdS (d : Nat) (c : Bool) (b : List UInt8) (hb : b.length < 1099511627776) (t : Int) (kk : Nat) (hk : kk ≤ 255) (h01 : (cellsOfBytes b)[1]? = some [.int .u8 (kk : Nat)]) (i p : Nat) (hi : i < kk) (ws : List Wr) (hl : ws.length = i) (x y : UInt8) (r : List UInt8) (hp : p + 2 + r.length = b.length) (e0 : (cellsOfBytes b)[p]? = some [.int .u8 x.toNat]) (e1 : (cellsOfBytes b)[p + 1]? = some [.int .u8 y.toNat]) (e2 : b.drop (p + 2) = r) (hy : ¬ 1 < y.toNat) (hn : (rFrom r).2 ≠ 0) (K : Nat) :
    LoopS (runD tab noExt (d + 6)) (drawI (runD tab noExt (d + 6))) [0, 2, 4, 5, 6] [0, 2, 3, 4, 5] L91x0 2 (K + 1) [(0, .sl c 1 (cellsOfBytes b)), (2, .ptr 0 0 0 0), (4, .ptr 1 0 0 0), (5, .int .i64 p), (6, .int .i64 i)] (wHeap t ws) = LoopS (runD tab noExt (d + 6)) (drawI (runD tab noExt (d + 6))) [0, 2, 4, 5, 6] [0, 2, 3, 4, 5] L91x0 2 K [(0, .sl c 1 (cellsOfBytes b)), (2, .ptr 0 0 0 0), (4, .ptr 1 0 0 0), (5, .int .i64 (p + 2 + (rFrom r).2 : Nat)), (6, .int .i64 (i + 1 : Nat))] (wHeap t (ws ++ [wrOf x y r])) := by
  have hv := run_rowFromS d c r (by omega)
  have hle := rFrom_le r
  have hx := x.toNat_lt
  have hyl := y.toNat_lt
  have e2c : (cellsOfBytes b).drop (p + 2) = cellsOfBytes r := by rw [cob_drop, e2]
  have htk : List.take (b.length - (p + 2)) (cellsOfBytes r) = cellsOfBytes r := List.take_of_length_le (by rw [cob_len]; omega)
  have g1 : ((b.length : Int) < (p : Int) + 2) = False := eq_false (by omega)
  have g2 : (1 < (y.toNat : Int)) = False := eq_false (by omega)
  have g3 : (((rFrom r).2 : Int) = 0) = False := eq_false (by omega)
  have g4 : (decide ((y.toNat : Int) = 1)) = decide (y.toNat = 1) := decide_eq_decide.2 (by omega)
  have g5 : ((i : Int) < kk) := by omega
  have g6 : ((p : Int) + 1).toNat = p + 1 := by omega
  have g7 : ((p : Int) + 2).toNat = p + 2 := by omega
  have g8 : (0 ≤ (p : Int) + 1 ∧ (p : Int) + 1 < b.length) := ⟨by omega, by omega⟩
  have g9 : (0 ≤ (p : Int) + 2 ∧ (p : Int) + 2 ≤ b.length) := ⟨by omega, by omega⟩
  have g10 : (p : Int) + 2 ≤ b.length := by omega
  have g11 : (p : Int) < b.length := by omega
  have g12 : (p : Int) + 1 < b.length := by omega
  have g13 : (0 : Int) ≤ (p : Int) + 1 := by omega
  have g14 : (0 : Int) ≤ (p : Int) + 2 := by omega
  cases ws with
  | nil =>
    rw [LoopS_eq]
    simp -implicitDefEqProofs (disch := omega) only [go_sem, Nat.reduceBEq, Nat.reduceAdd, Nat.reduceSub, Nat.reduceMul, Nat.reduceLeDiff, Nat.reduceEqDiff, Nat.reduceLT, Int.reduceNeg, Int.reduceAdd, Int.reduceSub, Int.reduceMul, Int.reduceLE, Int.reduceLT, Int.reduceEq, Int.reduceToNat, reduceCtorEq, evL91x0, B91x0, evC_draw, evD91x0, E91x0, wHeap, wPtr, wTail, wrOf, Wr.cells, Row.v, h01, cob_len, e0, e1, e2c, htk, hv, g1, g2, g3, g4, g5, g6, g7, g8, g9, g10, g11, g12, g13, g14, IntWalk.i64_in, elemsOf, elemOf]
    simp only [Int.add_assoc]
  | cons w ws =>
    have hsm : ws.length + 1 + 1 < 4294967296 := by simp only [List.length_cons] at hl; omega
    rw [LoopS_eq]
    simp -implicitDefEqProofs (disch := omega) only [go_sem, Nat.reduceBEq, Nat.reduceAdd, Nat.reduceSub, Nat.reduceMul, Nat.reduceLeDiff, Nat.reduceEqDiff, Nat.reduceLT, Int.reduceNeg, Int.reduceAdd, Int.reduceSub, Int.reduceMul, Int.reduceLE, Int.reduceLT, Int.reduceEq, Int.reduceToNat, reduceCtorEq, evL91x0, B91x0, evC_draw, evD91x0, E91x0, wHeap, wPtr, wTail, wrOf, Wr.cells, Row.v, h01, cob_len, e0, e1, e2c, htk, hv, hsm, g1, g2, g3, g4, g5, g6, g7, g8, g9, g10, g11, g12, g13, g14, IntWalk.i64_in, elemsOf, elemOf, List.map_append, List.length_append]
    simp only [Int.add_assoc]
theorem drop_cases (b : List UInt8) (p : Nat) (hp : p ≤ b.length) : (b.length < p + 2 ∧ ∀ m, wsS (m + 1) (b.drop p) = none ∧ wsI (m + 1) (b.drop p) = none) ∨ ∃ x y r, b.drop p = x :: y :: r := by
  have hl := List.length_drop (i := p) (l := b)
  match h : b.drop p with
  | [] => rw [h] at hl; simp only [List.length_nil] at hl; exact .inl ⟨by omega, fun m => ⟨rfl, rfl⟩⟩
  | [x] => rw [h] at hl; simp only [List.length_cons, List.length_nil] at hl; exact .inl ⟨by omega, fun m => ⟨rfl, rfl⟩⟩
  | x :: y :: r => exact .inr ⟨x, y, r, rfl⟩
theorem loop_rdS (d : Nat) (c : Bool) (b : List UInt8) (hb : b.length < 1099511627776) (t : Int) (kk : Nat) (hk : kk ≤ 255) (h01 : (cellsOfBytes b)[1]? = some [.int .u8 (kk : Nat)]) : ∀ (m i p : Nat) (ws : List Wr), i + m = kk → p ≤ b.length → ws.length = i → ∀ K, m ≤ K →
    match wsS m (b.drop p) with
    | none => ∃ (p' : Nat) (ws' : List Wr), LoopS (runD tab noExt (d + 6)) (drawI (runD tab noExt (d + 6))) [0, 2, 4, 5, 6] [0, 2, 3, 4, 5] L91x0 2 K [(0, .sl c 1 (cellsOfBytes b)), (2, .ptr 0 0 0 0), (4, .ptr 1 0 0 0), (5, .int .i64 p), (6, .int .i64 i)] (wHeap t ws) = some (.ret, [(0, .sl c 1 (cellsOfBytes b)), (2, .ptr 0 0 0 0), (3, .bool false), (4, .ptr 1 0 0 0), (5, .int .i64 p')], wHeap t ws')
    | some (vs, n) => LoopS (runD tab noExt (d + 6)) (drawI (runD tab noExt (d + 6))) [0, 2, 4, 5, 6] [0, 2, 3, 4, 5] L91x0 2 K [(0, .sl c 1 (cellsOfBytes b)), (2, .ptr 0 0 0 0), (4, .ptr 1 0 0 0), (5, .int .i64 p), (6, .int .i64 i)] (wHeap t ws) = some (.exit 0, [(0, .sl c 1 (cellsOfBytes b)), (2, .ptr 0 0 0 0), (3, .undef), (4, .ptr 1 0 0 0), (5, .int .i64 (p + n : Nat))], wHeap t (ws ++ vs))
  | 0, i, p, ws, hi, hp, hr, K, hK => by
    have e : i = kk := by omega
    subst e
    simp only [wsS]
    rw [LoopS_eq]
    cases ws <;> simp -implicitDefEqProofs (disch := omega) only [go_sem, Nat.reduceBEq, Nat.reduceAdd, Nat.reduceSub, Nat.reduceMul, Nat.reduceLeDiff, Nat.reduceEqDiff, Nat.reduceLT, Int.reduceNeg, Int.reduceAdd, Int.reduceSub, Int.reduceMul, Int.reduceLE, Int.reduceLT, Int.reduceEq, Int.reduceToNat, reduceCtorEq, evL91x0, B91x0, wHeap, wPtr, wTail, h01, IntWalk.i64_in, Int.lt_irrefl, List.append_nil, Nat.add_zero, Int.add_zero]
  | m + 1, i, p, ws, hi, hp, hr, K, hK => by
    obtain ⟨K, rfl⟩ : ∃ k', K = k' + 1 := ⟨K - 1, by omega⟩
    have hlt : (i : Int) < kk := by omega
    rcases drop_cases b p hp with ⟨h1, h2⟩ | ⟨x, y, r, hd⟩
    · rw [(h2 m).1]
      refine ⟨p, ws, ?_⟩
      have g1 : (b.length : Int) < (p : Int) + 2 := by omega
      rw [LoopS_eq]
      cases ws <;> simp -implicitDefEqProofs (disch := omega) only [go_sem, Nat.reduceBEq, Nat.reduceAdd, Nat.reduceSub, Nat.reduceMul, Nat.reduceLeDiff, Nat.reduceEqDiff, Nat.reduceLT, Int.reduceNeg, Int.reduceAdd, Int.reduceSub, Int.reduceMul, Int.reduceLE, Int.reduceLT, Int.reduceEq, Int.reduceToNat, reduceCtorEq, evL91x0, B91x0, wHeap, wPtr, wTail, h01, hlt, g1, cob_len, IntWalk.i64_in]
    · obtain ⟨q1, q2, q3, q4⟩ := two_at hd
      have hx := x.toNat_lt
      have hyl := y.toNat_lt
      have g1 : ((b.length : Int) < (p : Int) + 2) = False := eq_false (by omega)
      have g6 : ((p : Int) + 1).toNat = p + 1 := by omega
      have g12 : (p : Int) + 1 < b.length := by omega
      have g13 : (0 : Int) ≤ (p : Int) + 1 := by omega
      by_cases hy : 1 < y.toNat
      · have g2 : (1 < (y.toNat : Int)) := by omega
        have e : wsS (m + 1) (b.drop p) = none := by rw [hd]; simp only [wsS, if_pos hy]
        rw [e]
        refine ⟨p, ws, ?_⟩
        rw [LoopS_eq]
        cases ws <;> simp -implicitDefEqProofs (disch := omega) only [go_sem, Nat.reduceBEq, Nat.reduceAdd, Nat.reduceSub, Nat.reduceMul, Nat.reduceLeDiff, Nat.reduceEqDiff, Nat.reduceLT, Int.reduceNeg, Int.reduceAdd, Int.reduceSub, Int.reduceMul, Int.reduceLE, Int.reduceLT, Int.reduceEq, Int.reduceToNat, reduceCtorEq, evL91x0, B91x0, wHeap, wPtr, wTail, h01, hlt, g1, g2, g6, g12, g13, q3, cob_len, IntWalk.i64_in]
      by_cases hn : (rFrom r).2 = 0
      · have e : wsS (m + 1) (b.drop p) = none := by rw [hd]; simp only [wsS, if_neg hy, if_pos hn]
        rw [e]
        refine ⟨p, ws, ?_⟩
        have hv := run_rowFromS d c r (by omega)
        have e2c : (cellsOfBytes b).drop (p + 2) = cellsOfBytes r := by rw [cob_drop, q4]
        have htk : List.take (b.length - (p + 2)) (cellsOfBytes r) = cellsOfBytes r := List.take_of_length_le (by rw [cob_len]; omega)
        have g2 : (1 < (y.toNat : Int)) = False := eq_false (by omega)
        have g3 : (((rFrom r).2 : Int) = 0) := by omega
        have g7 : ((p : Int) + 2).toNat = p + 2 := by omega
        have g10 : (p : Int) + 2 ≤ b.length := by omega
        have g14 : (0 : Int) ≤ (p : Int) + 2 := by omega
        rw [LoopS_eq]
        cases ws <;> simp -implicitDefEqProofs (disch := omega) only [go_sem, Nat.reduceBEq, Nat.reduceAdd, Nat.reduceSub, Nat.reduceMul, Nat.reduceLeDiff, Nat.reduceEqDiff, Nat.reduceLT, Int.reduceNeg, Int.reduceAdd, Int.reduceSub, Int.reduceMul, Int.reduceLE, Int.reduceLT, Int.reduceEq, Int.reduceToNat, reduceCtorEq, evL91x0, B91x0, wHeap, wPtr, wTail, h01, hlt, g1, g2, g3, g6, g7, g10, g12, g13, g14, q3, e2c, htk, hv, cob_len, IntWalk.i64_in]
      have hle := rFrom_le r
      have ih := loop_rdS d c b hb t kk hk h01 m (i + 1) (p + 2 + (rFrom r).2) (ws ++ [wrOf x y r]) (by omega) (by omega) (by simp [hr]) K (by omega)
      rw [← List.drop_drop, q4] at ih
      have step := step_rdS d c b hb t kk hk h01 i p (by omega) ws hr x y r q1 q2 q3 q4 hy hn K
      have e : wsS (m + 1) (b.drop p) = match wsS m (r.drop (rFrom r).2) with
        | none => none
        | some (ws, n) => some (wrOf x y r :: ws, (rFrom r).2 + n + 2) := by rw [hd]; simp only [wsS, if_neg hy, if_neg hn]; try (cases wsS m (r.drop (rFrom r).2) <;> rfl)
      rw [e, step]
      revert ih
      generalize wsS m (r.drop (rFrom r).2) = R
      intro ih
      cases R with
      | none => exact ih
      | some q =>
        obtain ⟨vs, n⟩ := q
        simp only at ih ⊢
        rw [ih, List.append_assoc]
        have e : p + 2 + (rFrom r).2 + n = p + ((rFrom r).2 + n + 2) := by omega
        rw [e]
        rfl
end Go.Proofs.Yteaojpfofifmnaa.PE
/- Bodies and entries read: the reference. -/
set_option linter.unusedSimpArgs false
set_option linter.unusedVariables false
set_option maxHeartbeats 8000000
set_option maxRecDepth 20000
namespace Go.Proofs.Yteaojpfofifmnaa.PE
open Go.RowKit

-- find91
theorem run_readS (d : Nat) (c : Bool) (b : List UInt8) (hb : b.length < 1099511627776) : match readS b with
    | some e => retP (runD tab noExt (d + 7)) 91 [.sl c 1 (cellsOfBytes b)] = some [.agg e.cells, .bool true]
    | none => ∃ q1 q2, retP (runD tab noExt (d + 7)) 91 [.sl c 1 (cellsOfBytes b)] = some [.agg [q1, q2], .bool false] := by
  match b, hb with
  | [], _ =>
    refine ⟨.int .i64 0, .sl true 3 [], ?_⟩
    rw [retP, runD_eq find91 _ _ _ (by simp)]
    simp -implicitDefEqProofs (disch := omega) only [go_sem, Nat.reduceBEq, Nat.reduceAdd, Nat.reduceSub, Nat.reduceMul, Nat.reduceLeDiff, Nat.reduceEqDiff, Nat.reduceLT, Int.reduceNeg, Int.reduceAdd, Int.reduceSub, Int.reduceMul, Int.reduceLE, Int.reduceLT, Int.reduceEq, Int.reduceToNat, reduceCtorEq, cob_nil]
  | [x], _ =>
    refine ⟨.int .i64 0, .sl true 3 [], ?_⟩
    rw [retP, runD_eq find91 _ _ _ (by simp)]
    simp -implicitDefEqProofs (disch := omega) only [go_sem, Nat.reduceBEq, Nat.reduceAdd, Nat.reduceSub, Nat.reduceMul, Nat.reduceLeDiff, Nat.reduceEqDiff, Nat.reduceLT, Int.reduceNeg, Int.reduceAdd, Int.reduceSub, Int.reduceMul, Int.reduceLE, Int.reduceLT, Int.reduceEq, Int.reduceToNat, reduceCtorEq, cob_cons, cob_nil]
  | t :: m :: rest, hb =>
    have hm := m.toNat_lt
    have ht := t.toNat_lt
    have hl := loop_rdS d c (t :: m :: rest) hb t.toNat m.toNat (by omega) rfl m.toNat 0 2 [] (by omega) (by simp) rfl 1099511627775 (by omega)
    simp only [List.drop_succ_cons, List.drop_zero, List.map_nil, List.nil_append, Int.natCast_zero, wHeap, wPtr, wTail, cob_cons] at hl
    have l2 : ((rest.length : Int) + 2 < 2) = False := eq_false (by omega)
    have er : readS (t :: m :: rest) = match wsS m.toNat rest with | none => none | some (ws, k) => if k = rest.length ∧ logOk [⟨t.toNat, ws.isEmpty, ws⟩] = true then some ⟨t.toNat, ws.isEmpty, ws⟩ else none := by simp only [readS]; try (cases wsS m.toNat rest <;> rfl)
    rw [er]
    clear er
    revert hl
    generalize hR : wsS m.toNat rest = R
    intro hl
    cases R with
    | none =>
      obtain ⟨p', ws', hl⟩ := hl
      try simp -implicitDefEqProofs only [go_sem, Nat.reduceBEq, Nat.reduceAdd, Nat.reduceSub, Nat.reduceMul, Nat.reduceLeDiff, Nat.reduceEqDiff, Nat.reduceLT, Int.reduceNeg, Int.reduceAdd, Int.reduceSub, Int.reduceMul, Int.reduceLE, Int.reduceLT, Int.reduceEq, Int.reduceToNat, reduceCtorEq] at hl
      refine ⟨.int .i64 0, .sl true 3 [], ?_⟩
      rw [retP, runD_eq find91 _ _ _ (by simp)]
      simp -implicitDefEqProofs (disch := omega) only [go_sem, Nat.reduceBEq, Nat.reduceAdd, Nat.reduceSub, Nat.reduceMul, Nat.reduceLeDiff, Nat.reduceEqDiff, Nat.reduceLT, Int.reduceNeg, Int.reduceAdd, Int.reduceSub, Int.reduceMul, Int.reduceLE, Int.reduceLT, Int.reduceEq, Int.reduceToNat, reduceCtorEq, l2, cob_cons, cob_len, IntWalk.i64_in]
      rw [hl]
      cases ws' <;> simp -implicitDefEqProofs (disch := omega) only [go_sem, Nat.reduceBEq, Nat.reduceAdd, Nat.reduceSub, Nat.reduceMul, Nat.reduceLeDiff, Nat.reduceEqDiff, Nat.reduceLT, Int.reduceNeg, Int.reduceAdd, Int.reduceSub, Int.reduceMul, Int.reduceLE, Int.reduceLT, Int.reduceEq, Int.reduceToNat, reduceCtorEq, wHeap, wPtr, wTail]
    | some q =>
      obtain ⟨ws, k⟩ := q
      have hlim := wsI_lim (by omega) (wsS_wsI _ _ hR) t.toNat ws.isEmpty
      obtain ⟨_, e2, e3⟩ := hlim.fine
      have hv1 := run_logS (d + 1) true [⟨t.toNat, ws.isEmpty, ws⟩] e3 e2
      simp only [List.map_cons, List.map_nil, Ent.cells, Ent.v] at hv1
      try simp -implicitDefEqProofs only [go_sem, Nat.reduceBEq, Nat.reduceAdd, Nat.reduceSub, Nat.reduceMul, Nat.reduceLeDiff, Nat.reduceEqDiff, Nat.reduceLT, Int.reduceNeg, Int.reduceAdd, Int.reduceSub, Int.reduceMul, Int.reduceLE, Int.reduceLT, Int.reduceEq, Int.reduceToNat, reduceCtorEq] at hl
      by_cases hk : k = rest.length
      · have g1 : (2 : Int) + k = rest.length + 2 := by omega
        cases ho : logOk [⟨t.toNat, ws.isEmpty, ws⟩]
        · rw [ho] at hv1
          simp only
          rw [if_neg (fun h => by rw [ho] at h; cases h.2)]
          refine ⟨.int .i64 t.toNat, .sl ws.isEmpty 3 (ws.map Wr.cells), ?_⟩
          rw [retP, runD_eq find91 _ _ _ (by simp)]
          simp -implicitDefEqProofs (disch := omega) only [go_sem, Nat.reduceBEq, Nat.reduceAdd, Nat.reduceSub, Nat.reduceMul, Nat.reduceLeDiff, Nat.reduceEqDiff, Nat.reduceLT, Int.reduceNeg, Int.reduceAdd, Int.reduceSub, Int.reduceMul, Int.reduceLE, Int.reduceLT, Int.reduceEq, Int.reduceToNat, reduceCtorEq, l2, cob_cons, cob_len, IntWalk.i64_in]
          rw [hl]
          cases ws <;> (try simp only [List.isEmpty_nil, List.isEmpty_cons, List.map_nil, List.map_cons] at hv1) <;> simp -implicitDefEqProofs (disch := omega) only [go_sem, Nat.reduceBEq, Nat.reduceAdd, Nat.reduceSub, Nat.reduceMul, Nat.reduceLeDiff, Nat.reduceEqDiff, Nat.reduceLT, Int.reduceNeg, Int.reduceAdd, Int.reduceSub, Int.reduceMul, Int.reduceLE, Int.reduceLT, Int.reduceEq, Int.reduceToNat, reduceCtorEq, evC_draw, evD91x1, E91x1, wHeap, wPtr, wTail, List.isEmpty_nil, List.isEmpty_cons, g1, hv1, cob_cons, cob_len, elemsOf, elemOf, frzs, frz1, refs, refC, refsV, List.set_cons_zero, List.set_cons_succ, List.take_length]
        · rw [ho] at hv1
          simp only
          rw [if_pos ⟨hk, ho⟩]
          simp only
          rw [retP, runD_eq find91 _ _ _ (by simp)]
          simp -implicitDefEqProofs (disch := omega) only [go_sem, Nat.reduceBEq, Nat.reduceAdd, Nat.reduceSub, Nat.reduceMul, Nat.reduceLeDiff, Nat.reduceEqDiff, Nat.reduceLT, Int.reduceNeg, Int.reduceAdd, Int.reduceSub, Int.reduceMul, Int.reduceLE, Int.reduceLT, Int.reduceEq, Int.reduceToNat, reduceCtorEq, l2, cob_cons, cob_len, IntWalk.i64_in]
          rw [hl]
          cases ws <;> (try simp only [List.isEmpty_nil, List.isEmpty_cons, List.map_nil, List.map_cons] at hv1) <;> simp -implicitDefEqProofs (disch := omega) only [go_sem, Nat.reduceBEq, Nat.reduceAdd, Nat.reduceSub, Nat.reduceMul, Nat.reduceLeDiff, Nat.reduceEqDiff, Nat.reduceLT, Int.reduceNeg, Int.reduceAdd, Int.reduceSub, Int.reduceMul, Int.reduceLE, Int.reduceLT, Int.reduceEq, Int.reduceToNat, reduceCtorEq, evC_draw, evD91x1, E91x1, wHeap, wPtr, wTail, List.isEmpty_nil, List.isEmpty_cons, g1, hv1, cob_cons, cob_len, elemsOf, elemOf, frzs, frz1, refs, refC, refsV, List.set_cons_zero, List.set_cons_succ, List.take_length, Ent.cells, Ent.v]
      · have g1 : ((2 : Int) + k = rest.length + 2) = False := eq_false (by omega)
        simp only
        rw [if_neg (fun h => hk h.1)]
        refine ⟨.int .i64 t.toNat, .sl ws.isEmpty 3 (ws.map Wr.cells), ?_⟩
        rw [retP, runD_eq find91 _ _ _ (by simp)]
        simp -implicitDefEqProofs (disch := omega) only [go_sem, Nat.reduceBEq, Nat.reduceAdd, Nat.reduceSub, Nat.reduceMul, Nat.reduceLeDiff, Nat.reduceEqDiff, Nat.reduceLT, Int.reduceNeg, Int.reduceAdd, Int.reduceSub, Int.reduceMul, Int.reduceLE, Int.reduceLT, Int.reduceEq, Int.reduceToNat, reduceCtorEq, l2, cob_cons, cob_len, IntWalk.i64_in]
        rw [hl]
        cases ws <;> (try simp only [List.isEmpty_nil, List.isEmpty_cons, List.map_nil, List.map_cons] at hv1) <;> simp -implicitDefEqProofs (disch := omega) only [go_sem, Nat.reduceBEq, Nat.reduceAdd, Nat.reduceSub, Nat.reduceMul, Nat.reduceLeDiff, Nat.reduceEqDiff, Nat.reduceLT, Int.reduceNeg, Int.reduceAdd, Int.reduceSub, Int.reduceMul, Int.reduceLE, Int.reduceLT, Int.reduceEq, Int.reduceToNat, reduceCtorEq, evC_draw, evD91x1, E91x1, wHeap, wPtr, wTail, List.isEmpty_nil, List.isEmpty_cons, g1, cob_cons, cob_len, elemsOf, elemOf, frzs, frz1, refs, refC, refsV, List.set_cons_zero, List.set_cons_succ, List.take_length]
end Go.Proofs.Yteaojpfofifmnaa.PE
/- Entries read: the reference. -/
set_option linter.unusedSimpArgs false
set_option linter.unusedVariables false
set_option maxHeartbeats 8000000
set_option maxRecDepth 20000
namespace Go.Proofs.Yteaojpfofifmnaa.PE
open Go.RowKit

-- find53
theorem run_eFromS (d : Nat) (c : Bool) (b : List UInt8) (hb : b.length < 1099511627776) : retP (runD tab noExt (d + 8)) 53 [.sl c 1 (cellsOfBytes b)] = some [.agg (eFrom b).1.cells, .int .i64 (eFrom b).2] := by
  match b, hb with
  | [], _ =>
    rw [retP, runD_eq find53 _ _ _ (by simp)]
    simp -implicitDefEqProofs (disch := omega) only [go_sem, Nat.reduceBEq, Nat.reduceAdd, Nat.reduceSub, Nat.reduceMul, Nat.reduceLeDiff, Nat.reduceEqDiff, Nat.reduceLT, Int.reduceNeg, Int.reduceAdd, Int.reduceSub, Int.reduceMul, Int.reduceLE, Int.reduceLT, Int.reduceEq, Int.reduceToNat, reduceCtorEq, cob_nil, eFrom, unF, entZ, Ent.cells, Ent.v]
  | [x], _ =>
    rw [retP, runD_eq find53 _ _ _ (by simp)]
    simp -implicitDefEqProofs (disch := omega) only [go_sem, Nat.reduceBEq, Nat.reduceAdd, Nat.reduceSub, Nat.reduceMul, Nat.reduceLeDiff, Nat.reduceEqDiff, Nat.reduceLT, Int.reduceNeg, Int.reduceAdd, Int.reduceSub, Int.reduceMul, Int.reduceLE, Int.reduceLT, Int.reduceEq, Int.reduceToNat, reduceCtorEq, cob_cons, cob_nil, eFrom, unF, entZ, Ent.cells, Ent.v]
  | x :: y :: r, hb =>
    have hx := x.toNat_lt
    have hy := y.toNat_lt
    have hn : (x.toNat : Int) * 256 + y.toNat = (256 * x.toNat + y.toNat : Nat) := by omega
    by_cases h3 : (r.length : Int) + 2 < 3
    · rw [eFrom, unF, if_pos (by omega)]
      rw [retP, runD_eq find53 _ _ _ (by simp)]
      simp -implicitDefEqProofs (disch := omega) only [go_sem, Nat.reduceBEq, Nat.reduceAdd, Nat.reduceSub, Nat.reduceMul, Nat.reduceLeDiff, Nat.reduceEqDiff, Nat.reduceLT, Int.reduceNeg, Int.reduceAdd, Int.reduceSub, Int.reduceMul, Int.reduceLE, Int.reduceLT, Int.reduceEq, Int.reduceToNat, reduceCtorEq, cob_cons, cob_len, h3, entZ, Ent.cells, Ent.v]
    · have h3' := eq_false h3
      generalize hN : 256 * x.toNat + y.toNat = n at hn
      have hn6 : n < 65536 := by omega
      by_cases h4 : r.length < n + 1
      · have h4' : (r.length : Int) + 2 < (n : Int) + 3 := by omega
        rw [eFrom, unF, hN, if_pos h4]
        rw [retP, runD_eq find53 _ _ _ (by simp)]
        simp -implicitDefEqProofs (disch := omega) only [go_sem, Nat.reduceBEq, Nat.reduceAdd, Nat.reduceSub, Nat.reduceMul, Nat.reduceLeDiff, Nat.reduceEqDiff, Nat.reduceLT, Int.reduceNeg, Int.reduceAdd, Int.reduceSub, Int.reduceMul, Int.reduceLE, Int.reduceLT, Int.reduceEq, Int.reduceToNat, reduceCtorEq, evC_draw, evD53x0, E53x0, evC_draw, evD53x1, E53x1, cob_cons, cob_len, IntWalk.i64_in, hn, h3', h4', entZ, Ent.cells, Ent.v]
      · have h4' : ((r.length : Int) + 2 < (n : Int) + 3) = False := eq_false (by omega)
        have hs : ∀ c, retP (runD tab noExt (d + 7)) 65 [.sl c 1 (cellsOfBytes (r.take n))] = some [.int .u8 (sumC (r.take n))] := fun c => run_sumSC (d + 6) c (r.take n) (by rw [List.length_take]; omega)
        have hrd : ∀ c, match readS (r.take n) with
          | some e => retP (runD tab noExt (d + 7)) 91 [.sl c 1 (cellsOfBytes (r.take n))] = some [.agg e.cells, .bool true]
          | none => ∃ q1 q2, retP (runD tab noExt (d + 7)) 91 [.sl c 1 (cellsOfBytes (r.take n))] = some [.agg [q1, q2], .bool false] := fun c => run_readS d c (r.take n) (by rw [List.length_take]; omega)
        have hx1 : (cellsOfBytes r)[n]? = some [.int .u8 (r.getD n 0).toNat] := by
          rw [List.getD_eq_getElem?_getD, List.getElem?_eq_getElem (show n < r.length by omega)]
          exact ofBytes_at (List.getElem?_eq_getElem (by omega))
        have f1 : (0 ≤ (n : Int) + 2 ∧ (n : Int) + 2 ≤ (r.length : Int) + 2) = True := eq_true (by omega)
        have f2 : ((2 : Int) ≤ (n : Int) + 2) = True := eq_true (by omega)
        have f3 : ((n : Int) + 2).toNat - 2 = n := by omega
        have f4 : ((n : Int) + 2).toNat = n + 2 := by omega
        have f5 : (0 ≤ (n : Int) + 2 ∧ (n : Int) + 2 < (r.length : Int) + 2) = True := eq_true (by omega)
        have f6 : ((n : Int) + 2 ≤ (r.length : Int) + 2) = True := eq_true (by omega)
        have f7 : ((n : Int) + 2 < (r.length : Int) + 2) = True := eq_true (by omega)
        have f8 : (0 ≤ (n : Int) + 2) = True := eq_true (by omega)
        have e : unF (x :: y :: r) = if sumC (r.take n) = ((r.getD n 0).toNat : Int) then some (r.take n, n + 3) else none := by rw [unF, hN, if_neg h4]
        rw [eFrom, e]
        by_cases hq : sumC (r.take n) = ((r.getD n 0).toNat : Int)
        · rw [if_pos hq]
          simp only
          cases hr : readS (r.take n) with
          | none =>
            rw [hr] at hrd
            obtain ⟨q1, q2, hd⟩ := hrd (c && decide ((n : Int) + 2 = r.length + 2))
            simp only
            rw [retP, runD_eq find53 _ _ _ (by simp)]
            simp -implicitDefEqProofs (disch := omega) only [go_sem, Nat.reduceBEq, Nat.reduceAdd, Nat.reduceSub, Nat.reduceMul, Nat.reduceLeDiff, Nat.reduceEqDiff, Nat.reduceLT, Int.reduceNeg, Int.reduceAdd, Int.reduceSub, Int.reduceMul, Int.reduceLE, Int.reduceLT, Int.reduceEq, Int.reduceToNat, reduceCtorEq, evC_draw, evD53x0, E53x0, evC_draw, evD53x1, E53x1, cob_cons, cob_len, cob_take, cob_drop, IntWalk.i64_in, hn, h3', h4', hs, hx1, f1, f2, f3, f4, f5, f6, f7, f8, Nat.add_sub_cancel, hq, hd, entZ, Ent.cells, Ent.v]
          | some en =>
            rw [hr] at hrd
            have hd := hrd (c && decide ((n : Int) + 2 = r.length + 2))
            simp only [Ent.cells, Ent.v] at hd
            simp only
            rw [retP, runD_eq find53 _ _ _ (by simp)]
            simp -implicitDefEqProofs (disch := omega) only [go_sem, Nat.reduceBEq, Nat.reduceAdd, Nat.reduceSub, Nat.reduceMul, Nat.reduceLeDiff, Nat.reduceEqDiff, Nat.reduceLT, Int.reduceNeg, Int.reduceAdd, Int.reduceSub, Int.reduceMul, Int.reduceLE, Int.reduceLT, Int.reduceEq, Int.reduceToNat, reduceCtorEq, evC_draw, evD53x0, E53x0, evC_draw, evD53x1, E53x1, cob_cons, cob_len, cob_take, cob_drop, IntWalk.i64_in, hn, h3', h4', hs, hx1, f1, f2, f3, f4, f5, f6, f7, f8, Nat.add_sub_cancel, hq, hd, entZ, Ent.cells, Ent.v]
        · have hq' : (((r.getD n 0).toNat : Int) = sumC (r.take n)) = False := eq_false (fun h => hq h.symm)
          rw [if_neg hq, retP, runD_eq find53 _ _ _ (by simp)]
          simp -implicitDefEqProofs (disch := omega) only [go_sem, Nat.reduceBEq, Nat.reduceAdd, Nat.reduceSub, Nat.reduceMul, Nat.reduceLeDiff, Nat.reduceEqDiff, Nat.reduceLT, Int.reduceNeg, Int.reduceAdd, Int.reduceSub, Int.reduceMul, Int.reduceLE, Int.reduceLT, Int.reduceEq, Int.reduceToNat, reduceCtorEq, evC_draw, evD53x0, E53x0, evC_draw, evD53x1, E53x1, cob_cons, cob_len, cob_take, cob_drop, IntWalk.i64_in, hn, h3', h4', hs, hx1, f1, f2, f3, f4, f5, f6, f7, f8, Nat.add_sub_cancel, hq', entZ, Ent.cells, Ent.v]
end Go.Proofs.Yteaojpfofifmnaa.PE
/- Results that are memory of one's own, told as values. -/
set_option linter.unusedSimpArgs false
set_option linter.unusedVariables false
namespace Go.Proofs.Yteaojpfofifmnaa.PE
open Go.RowKit

theorem retP_ownI {run : Run} {f : Nat} {args : List V} {v : V} {hc : Heap} {fs : List Fd} {u : U} {ids : List Nat} {k : IntKind} {n : Int} (hr : run f args [] = some ([v, .int k n], hc)) (ho : OwnF hc (.sub fs) v u ids) (hd : dep (.sub fs) ≤ 6) : ∃ q, retP run f args = some [q, .int k n] ∧ PurF (.sub fs) q u := by
  obtain ⟨q, e1, e2⟩ := OwnF_pure (.sub fs) 6 hd ho
  have e3 := pureDA_of ho e1
  refine ⟨q, ?_, e2⟩
  unfold retP
  rw [hr, PureR_some]
  have hA : pureAs hc [v, .int k n] = none ∨ pureAs hc [v, .int k n] = some [q, .int k n] := by
    simp only [OwnF] at ho
    obtain ⟨xs, rfl, ⟨c, rfl, rfl, _⟩ | ⟨id, st, clip, cont, r, rfl, e, _, _⟩⟩ := ho
    · right
      simp only [pureD, Option.some.injEq] at e1
      subst e1
      rfl
    · simp only [pureAs, pureA, pureC, e, blkOf]
      cases hdeep : fs.any Fd.deep
      · right
        simp only [pureD, e, blkOf, hdeep, Bool.false_eq_true, if_false, if_true, Option.some.injEq] at e1
        subst e1
        simp
      · left
        simp
  rcases hA with hA | hA
  · rw [hA, OrD_none]
    simp only [pureDAs, mapO, e3, pureDA_int]
  · rw [hA, OrD_some]
end Go.Proofs.Yteaojpfofifmnaa.PE
/- What a follower has of a log; a backup and the log behind it. -/
set_option linter.unusedSimpArgs false
set_option linter.unusedVariables false
set_option maxHeartbeats 4000000
namespace Go.Proofs.Yteaojpfofifmnaa.PE
open Go.RowKit

def icell (x : Int) : List V := [.int .i64 x]
def icU (x : Int) : List U := [.int x]
def fol1 (m : Nat) (b : Nat) (x : Int) : Nat := if x = b ∧ (b : Int) < m then b + 1 else b
def fol (m : Nat) (xs : List Int) : Nat := xs.foldl (fol1 m) 0
theorem prevsG_mem {α : Type} {f : Option α × α → Bool} : ∀ {l : List α} {o : Option α}, (prevsG o l).all f = true → ∀ x ∈ l, ∃ p, f (p, x) = true
  | [], _, _, x, hx => by cases hx
  | v :: r, o, h, x, hx => by
    simp only [prevsG, List.all_cons, Bool.and_eq_true] at h
    rcases List.mem_cons.1 hx with rfl | hx
    · exact ⟨o, h.1⟩
    · exact prevsG_mem h.2 x hx
theorem logOk_one {l : List Ent} (h : logOk l = true) : ∀ e ∈ l, e.one = true := by
  intro e he
  simp only [logOk, Bool.and_eq_true] at h
  obtain ⟨p, hp⟩ := prevsG_mem h.1 e he
  simp only [entOk, Bool.and_eq_true] at hp
  exact hp.1
theorem ent_cnt {e : Ent} (h : e.one = true) : cntR fdEntry (entU e) ≤ 100 := by
  simp only [Ent.one, Bool.and_eq_true] at h
  have h5 := wrs_len5 h.2
  have hw : ∀ w ∈ e.ws, w.row.vs.length ≤ 4 := by
    intro w hw
    simp only [wrsOk] at h
    obtain ⟨p, hp⟩ := prevsG_mem h.2 w hw
    simp only [wrOk, Wr.one, rowOk, Bool.and_eq_true, decide_eq_true_eq] at hp
    exact hp.1.2.1.2
  have := sum_all (c := cntR fdWrite) (n := 14) (xs := e.ws.map wrU) (fun x hx => by
    obtain ⟨w, hw', rfl⟩ := List.mem_map.1 hx
    have e1 : cntR fdWrite (wrU w) = 1 + cntF (.sub fdValue) (.sub (w.row.vs.map valU)) + 1 := by simp only [fdWrite, wrU, cntR, cntF_int, cntF_bool]; omega
    have := hw w hw'
    rw [e1, vals_cnt]
    omega)
  rw [List.length_map] at this
  have e2 : cntR fdEntry (entU e) = 1 + sumU (cntR fdWrite) (e.ws.map wrU) := by simp only [fdEntry, entU, cntR, cntF_int, cntF]; omega
  rw [e2]
  omega
theorem ents_cnt {l : List Ent} (h : ∀ e ∈ l, e.one = true) (hn : l.length ≤ 1048576) : (cntF (.sub fdEntry) (.sub (l.map entU)) : Int) ≤ 2305843009213693952 := by
  have := sum_all (c := cntR fdEntry) (n := 100) (xs := l.map entU) (fun x hx => by
    obtain ⟨e, he, rfl⟩ := List.mem_map.1 hx
    exact ent_cnt (h e he))
  rw [List.length_map] at this
  simp only [cntF]
  omega
end Go.Proofs.Yteaojpfofifmnaa.PE
/- A backup and the log behind it. -/
set_option linter.unusedSimpArgs false
set_option linter.unusedVariables false
set_option maxHeartbeats 4000000
namespace Go.Proofs.Yteaojpfofifmnaa.PE
open Go.RowKit

def behStep (t : Int) (b : List Ent) (x : Ent) : List Ent := if t < x.time then b ++ [x] else b
def beh (k : Ent) (l : List Ent) : List Ent := l.foldl (behStep k.time) [k]
theorem prevs_pw : ∀ (l : List Ent) (o : Option Ent), (prevsG o l).all entOk = true ↔ (∀ e ∈ l, e.one = true) ∧ (∀ q, o = some q → ∀ e ∈ l, q.time < e.time) ∧ l.Pairwise (fun a b => a.time < b.time)
  | [], o => by simp [prevsG]
  | v :: r, o => by
    have ih := prevs_pw r (some v)
    simp only [prevsG, List.all_cons, Bool.and_eq_true, entOk, ih, List.pairwise_cons, List.mem_cons, forall_eq_or_imp, Option.some.injEq, forall_eq']
    constructor
    · rintro ⟨⟨h1, h2⟩, h3, h4, h5⟩
      refine ⟨⟨h1, h3⟩, fun q hq => ?_, h4, h5⟩
      subst hq
      have : q.time < v.time := by simpa [entAhead] using h2
      exact ⟨this, fun e he => by have := h4 e he; omega⟩
    · rintro ⟨⟨h1, h3⟩, h2, h4, h5⟩
      refine ⟨⟨h1, ?_⟩, h3, h4, h5⟩
      cases o with
      | none => rfl
      | some q => simpa [entAhead] using (h2 q rfl).1
theorem logOk_iff (l : List Ent) : logOk l = true ↔ (∀ e ∈ l, e.one = true) ∧ l.Pairwise (fun a b => a.time < b.time) ∧ l.length ≤ 12 := by
  unfold logOk
  rw [Bool.and_eq_true, prevs_pw, decide_eq_true_eq]
  constructor
  · rintro ⟨⟨h1, _, h3⟩, h4⟩
    exact ⟨h1, h3, by omega⟩
  · rintro ⟨h1, h3, h4⟩
    exact ⟨⟨h1, (fun q hq => by cases hq), h3⟩, by omega⟩
def behOk (k : Ent) (l : List Ent) : Bool := logOk [k] && (logOk l && decide (((beh k l).length : Int) ≤ 12))
end Go.Proofs.Yteaojpfofifmnaa.PE
/- Bytes of logs: both functions tell them. -/
set_option linter.unusedSimpArgs false
set_option linter.unusedVariables false
set_option maxHeartbeats 8000000
set_option maxRecDepth 20000
namespace Go.Proofs.Yteaojpfofifmnaa.PE
open Go.RowKit

theorem zip_bytes {h : Heap} : ∀ {cont : List (List V)} {l : List Int} {r : List Nat}, Zip3 (OwnR h fdByte) cont (byU l) r → cont = u8s l
  | [], [], _, _ => rfl
  | [], _ :: _, _, h => (h : False).elim
  | _ :: _, [], _, h => (h : False).elim
  | c :: cs, x :: l, r, h => by
    obtain ⟨i, j, rfl, h1, h2⟩ := h
    obtain ⟨a, rfl, h3, rfl⟩ := ownR_Byte h1
    injection h3 with h3
    injection h3 with h3
    subst h3
    rw [u8s_cons, zip_bytes h2]
def entF (b : List Int) (e : Ent) : List Int := b ++ frB (bodyB e)
def logBytes (l : List Ent) : List Int := if logOk l then l.foldl entF [] else []
theorem log_len {l : List Ent} (h : logOk l = true) : l.length ≤ 12 := ((logOk_iff l).1 h).2.2
-- find30
end Go.Proofs.Yteaojpfofifmnaa.PE
/- Whether two lists of bytes are the same; entries' bytes as a call's result. -/
set_option linter.unusedSimpArgs false
set_option linter.unusedVariables false
set_option maxHeartbeats 8000000
set_option maxRecDepth 20000
namespace Go.Proofs.Yteaojpfofifmnaa.PE
open Go.RowKit

theorem loop_eqB (d : Nat) (c c' : Bool) (a b : List Int) (hs : a.length < 1099511627776) (hlen : a.length = b.length) (K : Nat) (hK : (a.zip b).length ≤ K) : LoopS (runD tab noExt d) (drawI (runD tab noExt d)) [0, 1, 12, 13] [4] L76x0 ([] : Heap).length K [(0, .sl c 1 (u8s a)), (1, .sl c' 1 (u8s b)), (12, .int .i64 (a.length : Int)), (13, .int .i64 0)] [] = if (a.zip b).all (fun p => decide (p.1 = p.2)) then (some (.exit 0, [(4, .undef)], []) : Out) else (some (.ret, [(4, .bool false)], []) : Out) := by
  have key := LoopS_all (run := (runD tab noExt d)) (draw := drawI (runD tab noExt d)) (live := [0, 1, 12, 13]) (out := [4]) (c := L76x0) (n0 := ([] : Heap).length) (a.zip b) (fun p => decide (p.1 = p.2)) (fun (i : Nat) => [(0, .sl c 1 (u8s a)), (1, .sl c' 1 (u8s b)), (12, .int .i64 (a.length : Int)), (13, .int .i64 i)]) [] (some (.exit 0, [(4, .undef)], []) : Out) (some (.ret, [(4, .bool false)], []) : Out) (fun K => ?_) (fun (i : Nat) (x : Int × Int) K hi hx => ?_) K hK
  · simp only [Int.natCast_zero] at key
    exact key
  · rw [LoopS_eq]
    simp -implicitDefEqProofs only [go_sem, Nat.reduceBEq, Nat.reduceAdd, Nat.reduceSub, Nat.reduceMul, Nat.reduceLeDiff, Nat.reduceEqDiff, Nat.reduceLT, Int.reduceNeg, Int.reduceAdd, Int.reduceSub, Int.reduceMul, Int.reduceLE, Int.reduceLT, Int.reduceEq, Int.reduceToNat, reduceCtorEq, evL76x0, B76x0, Int.lt_irrefl, List.length_zip, hlen, Nat.min_self, evC_draw, evD76x0, E76x0, u8s_len]
  · obtain ⟨g1, g2⟩ := List.getElem?_zip_eq_some.1 hx; rw [List.length_zip, hlen, Nat.min_self] at hi; obtain ⟨k1, k2⟩ := x; have g1 := u8s_at g1; have g2 := u8s_at g2
    rw [LoopS_eq]
    simp -implicitDefEqProofs (disch := omega) only [go_sem, Nat.reduceBEq, Nat.reduceAdd, Nat.reduceSub, Nat.reduceMul, Nat.reduceLeDiff, Nat.reduceEqDiff, Nat.reduceLT, Int.reduceNeg, Int.reduceAdd, Int.reduceSub, Int.reduceMul, Int.reduceLE, Int.reduceLT, Int.reduceEq, Int.reduceToNat, reduceCtorEq, evL76x0, B76x0, hi, hx, IntWalk.i64_in, List.length_zip, hlen, Nat.min_self, evC_draw, evD76x0, E76x0, u8s_len, *]
    repeat' ((first | rw [GuardI_ndec] | rw [CondC_ndec] | rw [GuardQ_ndec] | rw [GuardI_dec] | rw [CondC_dec] | rw [GuardQ_dec] | rw [GuardI_nby] | rw [CondC_nby] | rw [GuardQ_nby] | rw [GuardQ_by] | rw [GuardI_by] | rw [CondC_by]) <;> split <;> simp -implicitDefEqProofs (disch := omega) only [go_sem, Nat.reduceBEq, Nat.reduceAdd, Nat.reduceSub, Nat.reduceMul, Nat.reduceLeDiff, Nat.reduceEqDiff, Nat.reduceLT, Int.reduceNeg, Int.reduceAdd, Int.reduceSub, Int.reduceMul, Int.reduceLE, Int.reduceLT, Int.reduceEq, Int.reduceToNat, reduceCtorEq, hi, hx, IntWalk.i64_in, List.length_zip, hlen, Nat.min_self, evC_draw, evD76x0, E76x0, u8s_len, *, *])
    all_goals first | rfl | (simp_all []; done) | (simp_all []; omega)
-- find76
theorem run_eqB (d : Nat) (c c' : Bool) (a b : List Int) (hs : a.length < 1099511627776) : retP (runD tab noExt (d + 1)) 76 [.sl c 1 (u8s a), .sl c' 1 (u8s b)] = some [.bool (decide (a = b))] := by
  rw [retP, runD_eq find76 _ _ _ (by simp)]
  by_cases hlen : a.length = b.length
  · have hl := loop_eqB d c c' a b hs hlen 1099511627775 (by simp; omega)
    simp -implicitDefEqProofs only [go_sem, Nat.reduceBEq, Nat.reduceAdd, Nat.reduceSub, Nat.reduceMul, Nat.reduceLeDiff, Nat.reduceEqDiff, Nat.reduceLT, Int.reduceNeg, Int.reduceAdd, Int.reduceSub, Int.reduceMul, Int.reduceLE, Int.reduceLT, Int.reduceEq, Int.reduceToNat, reduceCtorEq, hlen, u8s_len] at hl ⊢
    rw [hl, zip_same a b hlen]
    by_cases h : a = b <;> simp -implicitDefEqProofs only [go_sem, Nat.reduceBEq, Nat.reduceAdd, Nat.reduceSub, Nat.reduceMul, Nat.reduceLeDiff, Nat.reduceEqDiff, Nat.reduceLT, Int.reduceNeg, Int.reduceAdd, Int.reduceSub, Int.reduceMul, Int.reduceLE, Int.reduceLT, Int.reduceEq, Int.reduceToNat, reduceCtorEq, h]
  · have h1 : ((a.length : Int) = b.length) = False := eq_false (by omega)
    have h2 : ¬ a = b := fun e => hlen (by rw [e])
    simp -implicitDefEqProofs only [go_sem, Nat.reduceBEq, Nat.reduceAdd, Nat.reduceSub, Nat.reduceMul, Nat.reduceLeDiff, Nat.reduceEqDiff, Nat.reduceLT, Int.reduceNeg, Int.reduceAdd, Int.reduceSub, Int.reduceMul, Int.reduceLE, Int.reduceLT, Int.reduceEq, Int.reduceToNat, reduceCtorEq, h1, h2, u8s_len]
/-- A heap behind a call: what was there, and more. -/
theorem heap_more {h hw : Heap} (k5 : ∀ j, j < h.length → hw[j]? = h[j]?) : hw = h ++ hw.drop h.length := by
  have : hw.take h.length = h := by
    apply List.ext_getElem?
    intro j
    rcases Nat.lt_or_ge j h.length with hj | hj
    · rw [List.getElem?_take_of_lt hj, k5 j hj]
    · rw [List.getElem?_eq_none hj, List.getElem?_eq_none (by simp; omega)]
  conv => lhs; rw [← List.take_append_drop h.length hw, this]
theorem entB_call (d : Nat) (h : Heap) {args args' : List V} (e : Ent) (hp : pureDAs h args = some args') (ha : args' = [.agg e.cells]) (h1 : LimE [e]) : ∃ v t, callX (runD tab noExt (d + 10)) h 0 18 args = some (v, h ++ t) ∧
    ((∃ c, v = .sl c 1 [] ∧ entBytes e = []) ∨ ∃ id st clip, v = .ref id st 0 (entBytes e).length clip ∧ (h ++ t)[id]? = some (.rows st 1 (u8s (entBytes e)))) := by
  obtain ⟨v, hc, ids, q1, q2, q3⟩ := own_EntryBytes d e h1
  rw [← ha] at q1
  obtain ⟨w, hw, js, k1, k2, k3, k4, k5, k6⟩ := own_call (h := h) hp q1 q2 q3
  have ht := heap_more k5
  refine ⟨w, hw.drop h.length, by rw [k1, ← ht], ?_⟩
  rw [← ht]
  simp only [OwnF] at k2
  obtain ⟨xs, e1, h2⟩ := k2
  injection e1 with e1
  subst e1
  rcases h2 with ⟨c, rfl, e2, _⟩ | ⟨id, st, clip, cont, r, rfl, hb, _, hz⟩
  · left
    refine ⟨c, rfl, ?_⟩
    have := congrArg List.length e2
    rw [by_len] at this
    exact List.length_eq_zero_iff.1 this
  · right
    have := zip_bytes hz
    subst this
    refine ⟨id, st, clip, by rw [u8s_len], hb⟩
end Go.Proofs.Yteaojpfofifmnaa.PE
/- Entries read: the program's loop. -/
set_option linter.unusedSimpArgs false
set_option linter.unusedVariables false
set_option maxHeartbeats 8000000
set_option maxRecDepth 20000
namespace Go.Proofs.Yteaojpfofifmnaa.PE
open Go.RowKit

theorem run_rowFromI (d : Nat) (c : Bool) (b : List UInt8) (hb : b.length < 1099511627776) : ∃ cl, retP (runD tab noExt (d + 6)) 31 [.sl c 1 (cellsOfBytes b)] = some [.sl cl 3 ((rFrom b).1.map Val.cells), .int .i64 (rFrom b).2] := by
  obtain ⟨v, hc, ids, r, o, _⟩ := own_rowFrom d c b hb
  obtain ⟨q, e, g⟩ := retP_ownI r o (by decide)
  obtain ⟨cl, ct, rfl, hz⟩ := purS_Value g
  obtain ⟨vs, rfl, h2⟩ := valsU_of hz
  have : (rFrom b).1 = vs := by simpa using map_same (fun _ _ => valU_inj) h2
  exact ⟨cl, by rw [e, this]⟩
-- find27
theorem step_efI (d : Nat) (c c0 : Bool) (b : List (List V)) (n : Nat) (t : Int) (kk : Nat) (i : Nat) (hi : i < kk) (hk : kk ≤ 255) (ws : List Wr) (hl : ws.length = i) (x y : UInt8) (r : List UInt8) (hr : r.length < 1099511627776) (h0 : 0 < r.length) (hn : (rFrom r).2 ≠ 0) (K : Nat) :
    ∃ cl, LoopS (runD tab noExt (d + 10)) (drawI (runD tab noExt (d + 10))) [0, 2, 5, 6, 7, 33, 34] [0, 2, 3, 5, 6] L27x0 2 (K + 1) [(0, .sl c0 1 b), (2, .ptr 0 0 0 0), (5, .int .i64 n), (6, .ptr 1 0 0 0), (7, .sl c 1 (cellsOfBytes (x :: y :: r))), (33, .int .i64 kk), (34, .int .i64 i)] (wHeap t ws) = LoopS (runD tab noExt (d + 10)) (drawI (runD tab noExt (d + 10))) [0, 2, 5, 6, 7, 33, 34] [0, 2, 3, 5, 6] L27x0 2 K [(0, .sl c0 1 b), (2, .ptr 0 0 0 0), (5, .int .i64 n), (6, .ptr 1 0 0 0), (7, .sl c 1 (cellsOfBytes (r.drop (rFrom r).2))), (33, .int .i64 kk), (34, .int .i64 (i + 1 : Nat))] (wHeap t (ws ++ [⟨x.toNat, ⟨cl, (rFrom r).1⟩, decide (y.toNat = 1)⟩])) := by
  obtain ⟨cl, hv⟩ := run_rowFromI (d + 4) c r hr
  refine ⟨cl, ?_⟩
  have hle := rFrom_le r
  have hx := x.toNat_lt
  have hyl := y.toNat_lt
  have htk : List.take r.length (cellsOfBytes r) = cellsOfBytes r := List.take_of_length_le (by rw [cob_len]; omega)
  have htk2 : List.take (r.length - (rFrom r).2) (cellsOfBytes (r.drop (rFrom r).2)) = cellsOfBytes (r.drop (rFrom r).2) := List.take_of_length_le (by rw [cob_len, List.length_drop]; omega)
  have g1 : ((r.length : Int) + 2 < 3) = False := eq_false (by omega)
  have g3 : (((rFrom r).2 : Int) = 0) = False := eq_false (by omega)
  have g4 : (decide ((y.toNat : Int) = 1)) = decide (y.toNat = 1) := decide_eq_decide.2 (by omega)
  have g5 : ((i : Int) < kk) := by omega
  have g6 : ((2 : Int) + (rFrom r).2).toNat = (rFrom r).2 + 2 := by omega
  have g7 : (2 : Int) + (rFrom r).2 ≤ (r.length : Int) + 2 := by omega
  have g8 : (0 : Int) ≤ 2 + (rFrom r).2 := by omega
  have g9 : (2 : Int) ≤ (r.length : Int) + 2 := by omega
  have g10 : (1 : Int) < (r.length : Int) + 2 := by omega
  have g11 : (0 : Int) < (r.length : Int) + 2 := by omega
  have g12 : ((r.length : Int) + 2).toNat = r.length + 2 := by omega
  cases ws with
  | nil =>
    rw [LoopS_eq]
    simp -implicitDefEqProofs (disch := omega) only [go_sem, Nat.reduceBEq, Nat.reduceAdd, Nat.reduceSub, Nat.reduceMul, Nat.reduceLeDiff, Nat.reduceEqDiff, Nat.reduceLT, Int.reduceNeg, Int.reduceAdd, Int.reduceSub, Int.reduceMul, Int.reduceLE, Int.reduceLT, Int.reduceEq, Int.reduceToNat, reduceCtorEq, evL27x0, B27x0, evC_draw, evD27x0, E27x0, wHeap, wPtr, wTail, Wr.cells, Row.v, cob_cons, cob_len, cob_drop, htk, htk2, hv, g1, g3, g4, g5, g6, g7, g8, g9, g10, g11, g12, Nat.add_sub_cancel, Nat.add_sub_add_right, IntWalk.i64_in, elemsOf, elemOf]
  | cons w ws =>
    have hsm : ws.length + 1 + 1 < 4294967296 := by simp only [List.length_cons] at hl; omega
    rw [LoopS_eq]
    simp -implicitDefEqProofs (disch := omega) only [go_sem, Nat.reduceBEq, Nat.reduceAdd, Nat.reduceSub, Nat.reduceMul, Nat.reduceLeDiff, Nat.reduceEqDiff, Nat.reduceLT, Int.reduceNeg, Int.reduceAdd, Int.reduceSub, Int.reduceMul, Int.reduceLE, Int.reduceLT, Int.reduceEq, Int.reduceToNat, reduceCtorEq, evL27x0, B27x0, evC_draw, evD27x0, E27x0, wHeap, wPtr, wTail, Wr.cells, Row.v, cob_cons, cob_len, cob_drop, htk, htk2, hv, hsm, g1, g3, g4, g5, g6, g7, g8, g9, g10, g11, g12, Nat.add_sub_cancel, Nat.add_sub_add_right, IntWalk.i64_in, elemsOf, elemOf, List.map_append, List.length_append]
end Go.Proofs.Yteaojpfofifmnaa.PE
/- Entries read: the program. -/
set_option linter.unusedSimpArgs false
set_option linter.unusedVariables false
set_option maxHeartbeats 8000000
set_option maxRecDepth 20000
namespace Go.Proofs.Yteaojpfofifmnaa.PE
open Go.RowKit

-- find27
theorem wsI_two {m : Nat} {x y : UInt8} {r : List UInt8} (h : (rFrom r).2 = 0) : wsI (m + 1) (x :: y :: r) = none := by simp only [wsI, if_pos h]
theorem loop_efI (d : Nat) (c0 : Bool) (b : List (List V)) (n : Nat) (t : Int) (kk : Nat) (hk : kk ≤ 255) : ∀ (m i : Nat) (c : Bool) (rest : List UInt8) (ws : List Wr), i + m = kk → rest.length < 1099511627776 → ws.length = i → ∀ K, m ≤ K →
    match wsI m rest with
    | none => ∃ (ws' : List Wr), LoopS (runD tab noExt (d + 10)) (drawI (runD tab noExt (d + 10))) [0, 2, 5, 6, 7, 33, 34] [0, 2, 3, 5, 6] L27x0 2 K [(0, .sl c0 1 b), (2, .ptr 0 0 0 0), (5, .int .i64 n), (6, .ptr 1 0 0 0), (7, .sl c 1 (cellsOfBytes rest)), (33, .int .i64 kk), (34, .int .i64 i)] (wHeap t ws) = some (.ret, [(0, .sl c0 1 b), (2, .ptr 0 0 0 0), (3, .int .i64 0), (5, .int .i64 n), (6, .ptr 1 0 0 0)], wHeap t ws')
    | some (vs, _) => ∃ (ws' : List Wr), ws'.map wrU = ws.map wrU ++ vs.map wrU ∧ LoopS (runD tab noExt (d + 10)) (drawI (runD tab noExt (d + 10))) [0, 2, 5, 6, 7, 33, 34] [0, 2, 3, 5, 6] L27x0 2 K [(0, .sl c0 1 b), (2, .ptr 0 0 0 0), (5, .int .i64 n), (6, .ptr 1 0 0 0), (7, .sl c 1 (cellsOfBytes rest)), (33, .int .i64 kk), (34, .int .i64 i)] (wHeap t ws) = some (.exit 0, [(0, .sl c0 1 b), (2, .ptr 0 0 0 0), (3, .undef), (5, .int .i64 n), (6, .ptr 1 0 0 0)], wHeap t ws')
  | 0, i, c, rest, ws, hi, hp, hr, K, hK => by
    have e : i = kk := by omega
    subst e
    simp only [wsI]
    refine ⟨ws, by simp, ?_⟩
    rw [LoopS_eq]
    cases ws <;> simp -implicitDefEqProofs (disch := omega) only [go_sem, Nat.reduceBEq, Nat.reduceAdd, Nat.reduceSub, Nat.reduceMul, Nat.reduceLeDiff, Nat.reduceEqDiff, Nat.reduceLT, Int.reduceNeg, Int.reduceAdd, Int.reduceSub, Int.reduceMul, Int.reduceLE, Int.reduceLT, Int.reduceEq, Int.reduceToNat, reduceCtorEq, evL27x0, B27x0, wHeap, wPtr, wTail, IntWalk.i64_in, Int.lt_irrefl]
  | m + 1, i, c, rest, ws, hi, hp, hr, K, hK => by
    obtain ⟨K, rfl⟩ : ∃ k', K = k' + 1 := ⟨K - 1, by omega⟩
    have hlt : (i : Int) < kk := by omega
    match rest, hp with
    | [], _ =>
      refine ⟨ws, ?_⟩
      rw [LoopS_eq]
      cases ws <;> simp -implicitDefEqProofs (disch := omega) only [go_sem, Nat.reduceBEq, Nat.reduceAdd, Nat.reduceSub, Nat.reduceMul, Nat.reduceLeDiff, Nat.reduceEqDiff, Nat.reduceLT, Int.reduceNeg, Int.reduceAdd, Int.reduceSub, Int.reduceMul, Int.reduceLE, Int.reduceLT, Int.reduceEq, Int.reduceToNat, reduceCtorEq, evL27x0, B27x0, wHeap, wPtr, wTail, hlt, cob_nil, IntWalk.i64_in]
    | [x], _ =>
      refine ⟨ws, ?_⟩
      rw [LoopS_eq]
      cases ws <;> simp -implicitDefEqProofs (disch := omega) only [go_sem, Nat.reduceBEq, Nat.reduceAdd, Nat.reduceSub, Nat.reduceMul, Nat.reduceLeDiff, Nat.reduceEqDiff, Nat.reduceLT, Int.reduceNeg, Int.reduceAdd, Int.reduceSub, Int.reduceMul, Int.reduceLE, Int.reduceLT, Int.reduceEq, Int.reduceToNat, reduceCtorEq, evL27x0, B27x0, wHeap, wPtr, wTail, hlt, cob_nil, cob_cons, IntWalk.i64_in]
    | [x, y], _ =>
      refine ⟨ws, ?_⟩
      rw [LoopS_eq]
      cases ws <;> simp -implicitDefEqProofs (disch := omega) only [go_sem, Nat.reduceBEq, Nat.reduceAdd, Nat.reduceSub, Nat.reduceMul, Nat.reduceLeDiff, Nat.reduceEqDiff, Nat.reduceLT, Int.reduceNeg, Int.reduceAdd, Int.reduceSub, Int.reduceMul, Int.reduceLE, Int.reduceLT, Int.reduceEq, Int.reduceToNat, reduceCtorEq, evL27x0, B27x0, wHeap, wPtr, wTail, hlt, cob_nil, cob_cons, IntWalk.i64_in]
    | x :: y :: z :: r, hp =>
      generalize hrr : z :: r = r1 at hp ⊢
      have h0 : 0 < r1.length := by rw [← hrr]; simp
      have hr1 : r1.length < 1099511627776 := by simp only [List.length_cons] at hp; omega
      clear hrr
      by_cases hn : (rFrom r1).2 = 0
      · rw [wsI_two hn]
        refine ⟨ws, ?_⟩
        obtain ⟨cl, hv⟩ := run_rowFromI (d + 4) c r1 hr1
        have htk : List.take r1.length (cellsOfBytes r1) = cellsOfBytes r1 := List.take_of_length_le (by rw [cob_len]; omega)
        have g1 : ((r1.length : Int) + 2 < 3) = False := eq_false (by omega)
        have g3 : (((rFrom r1).2 : Int) = 0) := by omega
        have g9 : (2 : Int) ≤ (r1.length : Int) + 2 := by omega
        have g12 : ((r1.length : Int) + 2).toNat = r1.length + 2 := by omega
        rw [LoopS_eq]
        cases ws <;> simp -implicitDefEqProofs (disch := omega) only [go_sem, Nat.reduceBEq, Nat.reduceAdd, Nat.reduceSub, Nat.reduceMul, Nat.reduceLeDiff, Nat.reduceEqDiff, Nat.reduceLT, Int.reduceNeg, Int.reduceAdd, Int.reduceSub, Int.reduceMul, Int.reduceLE, Int.reduceLT, Int.reduceEq, Int.reduceToNat, reduceCtorEq, evL27x0, B27x0, wHeap, wPtr, wTail, hlt, cob_cons, cob_len, cob_drop, htk, hv, g1, g3, g9, g12, Nat.add_sub_cancel, IntWalk.i64_in]
      · obtain ⟨cl, step⟩ := step_efI d c c0 b n t kk i (by omega) hk ws hr x y r1 hr1 h0 hn K
        have ih := loop_efI d c0 b n t kk hk m (i + 1) c (r1.drop (rFrom r1).2) (ws ++ [⟨x.toNat, ⟨cl, (rFrom r1).1⟩, decide (y.toNat = 1)⟩]) (by omega) (by rw [List.length_drop]; omega) (by simp [hr]) K (by omega)
        have e : wsI (m + 1) (x :: y :: r1) = match wsI m (r1.drop (rFrom r1).2) with
          | none => none
          | some (ws, n) => some (wrOf x y r1 :: ws, (rFrom r1).2 + n + 2) := by simp only [wsI, if_neg hn]; try (cases wsI m (r1.drop (rFrom r1).2) <;> rfl)
        rw [e, step]
        revert ih
        generalize wsI m (r1.drop (rFrom r1).2) = R
        intro ih
        cases R with
        | none => exact ih
        | some q =>
          obtain ⟨vs, n⟩ := q
          simp only at ih ⊢
          obtain ⟨ws', h1, h2⟩ := ih
          refine ⟨ws', ?_, h2⟩
          rw [h1]
          simp [wrU, wrOf]
end Go.Proofs.Yteaojpfofifmnaa.PE
/- Entries read: the program, as memory of one's own. -/
set_option linter.unusedSimpArgs false
set_option linter.unusedVariables false
set_option maxHeartbeats 8000000
set_option maxRecDepth 20000
namespace Go.Proofs.Yteaojpfofifmnaa.PE
open Go.RowKit

theorem wHeap_pure (t : Int) (ws : List Wr) : pureDAs (wHeap t ws) [.agg [.int .i64 t, wPtr ws]] = some [.agg (Ent.cells ⟨t, ws.isEmpty, ws⟩)] := by
  cases ws with
  | nil => simp only [wHeap, wPtr, wTail, pureDAs, mapO, pureDA, pureD, deepest, Option.map_some, Ent.cells, Ent.v, List.isEmpty_nil, List.map_nil]
  | cons w r =>
    have ht : List.take (r.length + 1) ((w :: r).map Wr.cells) = (w :: r).map Wr.cells := List.take_of_length_le (by simp)
    simp only [wHeap, wPtr, wTail, pureDAs, mapO, pureDA, pureD, deepest, Option.map_some, Ent.cells, Ent.v, List.isEmpty_cons, List.getElem?_cons_succ, List.getElem?_cons_zero, if_true, List.drop_zero, ht]
theorem wHeap_pure1 (t : Int) (ws : List Wr) (tt : Heap) : pureDAs (wHeap t ws ++ tt) [wPtr ws] = some [.sl ws.isEmpty 3 (ws.map Wr.cells)] := by
  cases ws with
  | nil => simp only [wHeap, wPtr, wTail, pureDAs, mapO, pureDA, pureD, deepest, Option.map_some, List.isEmpty_nil, List.map_nil]
  | cons w r =>
    have ht : List.take (r.length + 1) ((w :: r).map Wr.cells) = (w :: r).map Wr.cells := List.take_of_length_le (by simp)
    simp only [wHeap, wPtr, wTail, pureDAs, mapO, pureDA, pureD, deepest, Option.map_some, List.isEmpty_cons, List.cons_append, List.getElem?_cons_succ, List.getElem?_cons_zero, if_true, List.drop_zero, ht]
theorem wsS_none {m : Nat} {b : List UInt8} (h : wsI m b = none) : wsS m b = none := by
  cases hS : wsS m b with
  | none => rfl
  | some q => rw [wsS_wsI m b hS] at h; cases h
-- find27
theorem own_eFrom (d : Nat) (c : Bool) (b : List UInt8) (hb : b.length < 1099511627776) : ∃ v hc ids, runD tab noExt (d + 11) 27 [.sl c 1 (cellsOfBytes b)] [] = some ([.agg [.int .i64 (eFrom b).1.time, v], .int .i64 (eFrom b).2], hc) ∧ OwnF hc (.sub fdWrite) v (.sub ((eFrom b).1.ws.map wrU)) ids ∧ ids.Nodup := by
  obtain ⟨c', hu⟩ := run_unframed (d + 8) c b hb
  unfold eFrom
  cases hU : unF b with
  | none =>
    rw [hU] at hu
    simp only at hu ⊢
    refine ⟨.sl true 3 [], [.box [.int .i64 0, .sl true 3 []]], [], ?_, own_nil rfl, List.nodup_nil⟩
    rw [runD_eq find27 _ _ _ (by simp)]
    simp -implicitDefEqProofs (disch := omega) only [go_sem, Nat.reduceBEq, Nat.reduceAdd, Nat.reduceSub, Nat.reduceMul, Nat.reduceLeDiff, Nat.reduceEqDiff, Nat.reduceLT, Int.reduceNeg, Int.reduceAdd, Int.reduceSub, Int.reduceMul, Int.reduceLE, Int.reduceLT, Int.reduceEq, Int.reduceToNat, reduceCtorEq, hu, entZ]
  | some q =>
    obtain ⟨body, n⟩ := q
    rw [hU] at hu
    simp only at hu ⊢
    obtain ⟨u1, u2, u3⟩ := unF_some hU
    have n0 : ((n : Int) = 0) = False := eq_false (by omega)
    match body, hu, hU, u1, u3 with
    | [], hu, hU, u1, u3 =>
      refine ⟨.sl true 3 [], [.box [.int .i64 0, .sl true 3 []]], [], ?_, own_nil rfl, List.nodup_nil⟩
      rw [runD_eq find27 _ _ _ (by simp)]
      simp -implicitDefEqProofs (disch := omega) only [go_sem, Nat.reduceBEq, Nat.reduceAdd, Nat.reduceSub, Nat.reduceMul, Nat.reduceLeDiff, Nat.reduceEqDiff, Nat.reduceLT, Int.reduceNeg, Int.reduceAdd, Int.reduceSub, Int.reduceMul, Int.reduceLE, Int.reduceLT, Int.reduceEq, Int.reduceToNat, reduceCtorEq, hu, n0, cob_nil, entZ, readS]
    | [x], hu, hU, u1, u3 =>
      refine ⟨.sl true 3 [], [.box [.int .i64 0, .sl true 3 []]], [], ?_, own_nil rfl, List.nodup_nil⟩
      rw [runD_eq find27 _ _ _ (by simp)]
      simp -implicitDefEqProofs (disch := omega) only [go_sem, Nat.reduceBEq, Nat.reduceAdd, Nat.reduceSub, Nat.reduceMul, Nat.reduceLeDiff, Nat.reduceEqDiff, Nat.reduceLT, Int.reduceNeg, Int.reduceAdd, Int.reduceSub, Int.reduceMul, Int.reduceLE, Int.reduceLT, Int.reduceEq, Int.reduceToNat, reduceCtorEq, hu, n0, cob_cons, cob_nil, entZ, readS]
    | t :: m :: rest, hu, hU, u1, u3 =>
      have hm := m.toNat_lt
      have ht := t.toNat_lt
      have l2 : ((rest.length : Int) + 2 < 2) = False := eq_false (by omega)
      have g9 : (2 : Int) ≤ (rest.length : Int) + 2 := by omega
      have g12 : ((rest.length : Int) + 2).toNat = rest.length + 2 := by omega
      have htk : List.take rest.length (cellsOfBytes rest) = cellsOfBytes rest := List.take_of_length_le (by rw [cob_len]; omega)
      have hl := loop_efI d c (cellsOfBytes b) n t.toNat m.toNat (by omega) m.toNat 0 c' rest [] (by omega) (by simp only [List.length_cons] at u1; omega) rfl 1099511627775 (by omega)
      simp only [List.map_nil, List.nil_append, Int.natCast_zero] at hl
      revert hl
      generalize hR : wsI m.toNat rest = R
      intro hl
      cases R with
      | none =>
        obtain ⟨ws', hl⟩ := hl
        simp only [wHeap, wPtr, wTail, go_sem, Nat.reduceBEq, Nat.reduceAdd, Nat.reduceSub, Nat.reduceMul, Nat.reduceLeDiff, Nat.reduceEqDiff, Nat.reduceLT, Int.reduceNeg, Int.reduceAdd, Int.reduceSub, Int.reduceMul, Int.reduceLE, Int.reduceLT, Int.reduceEq, Int.reduceToNat, reduceCtorEq] at hl
        have hrd : readS (t :: m :: rest) = none := by simp only [readS, wsS_none hR]
        rw [hrd]
        refine ⟨.sl true 3 [], wHeap t.toNat ws', [], ?_, own_nil rfl, List.nodup_nil⟩
        rw [runD_eq find27 _ _ _ (by simp)]
        simp -implicitDefEqProofs (disch := omega) only [go_sem, Nat.reduceBEq, Nat.reduceAdd, Nat.reduceSub, Nat.reduceMul, Nat.reduceLeDiff, Nat.reduceEqDiff, Nat.reduceLT, Int.reduceNeg, Int.reduceAdd, Int.reduceSub, Int.reduceMul, Int.reduceLE, Int.reduceLT, Int.reduceEq, Int.reduceToNat, reduceCtorEq, hu, n0, l2, g9, g12, htk, Nat.add_sub_cancel, cob_cons, cob_len, entZ, IntWalk.i64_in]
        rw [hl]
        cases ws' <;> simp -implicitDefEqProofs (disch := omega) only [go_sem, Nat.reduceBEq, Nat.reduceAdd, Nat.reduceSub, Nat.reduceMul, Nat.reduceLeDiff, Nat.reduceEqDiff, Nat.reduceLT, Int.reduceNeg, Int.reduceAdd, Int.reduceSub, Int.reduceMul, Int.reduceLE, Int.reduceLT, Int.reduceEq, Int.reduceToNat, reduceCtorEq, wHeap, wPtr, wTail]
      | some q =>
        obtain ⟨vs, k⟩ := q
        obtain ⟨ws', hws, hl⟩ := hl
        have hlim := wsI_lim (by omega) hR t.toNat vs.isEmpty
        have back := back_iff (c := vs.isEmpty) hU hR
        have heU : entU ⟨(t.toNat : Int), ws'.isEmpty, ws'⟩ = entU ⟨t.toNat, vs.isEmpty, vs⟩ := by simp [entU, hws]
        have hE := entBytes_vs heU
        have hLim' : LimE [⟨(t.toNat : Int), ws'.isEmpty, ws'⟩] := ents_lim (by
          have := ents_len hlim
          simp only [List.map_cons, List.map_nil, ← heU] at this ⊢
          exact this)
        obtain ⟨w, tt, kE, hw⟩ := entB_call d (wHeap t.toNat ws') _ (wHeap_pure t.toNat ws') rfl hLim'
        have heq : ∀ a cc, retP (runD tab noExt (d + 10)) 76 [.sl a 1 (u8s (entBytes ⟨t.toNat, ws'.isEmpty, ws'⟩)), .sl cc 1 (cellsOfBytes (b.take n))] = some [.bool (decide (entBytes ⟨t.toNat, ws'.isEmpty, ws'⟩ = toI (b.take n)))] := fun a cc => by
          rw [cob_u8s]
          exact run_eqB (d + 9) a cc _ _ (by have := entBytes_len ⟨(t.toNat : Int), ws'.isEmpty, ws'⟩; omega)
        obtain ⟨v1, hc1, is1, q1, q2, q3⟩ := own_writesCopy (d + 7) ws'.isEmpty ws' (hLim'.fine.1.2 _ (List.mem_singleton.2 rfl))
        obtain ⟨v, hw2, js, k1, k2, k3, k4, k5, k6⟩ := own_call (h := wHeap t.toNat ws' ++ tt) (args := [wPtr ws']) (wHeap_pure1 t.toNat ws' tt) q1 q2 q3
        have htb : ∀ l : List Int, List.take l.length (u8s l) = u8s l := fun l => List.take_of_length_le (by rw [u8s_len]; omega)
        have gn : (n : Int) ≤ b.length := by omega
        have f0 : hw2[0]? = some (.box [.int .i64 0, .sl true 3 []]) := (k5 0 (by simp [wHeap])).trans rfl
        have f1 : hw2[1]? = some (.box [.int .i64 t.toNat, wPtr ws']) := (k5 1 (by simp [wHeap])).trans rfl
        have z1 : 1 < hw2.length := (List.getElem?_eq_some_iff.1 f1).1
        have z0 : 0 < hw2.length := by omega
        by_cases hq : entBytes ⟨(t.toNat : Int), ws'.isEmpty, ws'⟩ = toI (b.take n)
        · obtain ⟨b1, b2, b3⟩ := back.1 (hE ▸ hq)
          have hrd : readS (t :: m :: rest) = some ⟨t.toNat, vs.isEmpty, vs⟩ := by simp only [readS, b1]; rw [if_pos ⟨b2, b3⟩]
          rw [hrd]
          simp only [decide_eq_true hq] at heq
          refine ⟨v, (hw2.set 1 (.box [.int .i64 t.toNat, v])).set 0 (.box [.int .i64 t.toNat, v]), js, ?_, ?_, k3⟩
          rotate_left
          · rw [← hws]
            refine OwnF_frame _ k2 (fun j hj => ?_)
            have g1 := k4 j hj
            have g3 : 2 ≤ j := by simp only [wHeap, List.cons_append, List.length_cons] at g1; omega
            rw [List.getElem?_set_ne (by omega), List.getElem?_set_ne (by omega)]
          simp only [wHeap, wPtr, wTail, go_sem, Nat.reduceBEq, Nat.reduceAdd, Nat.reduceSub, Nat.reduceMul, Nat.reduceLeDiff, Nat.reduceEqDiff, Nat.reduceLT, Int.reduceNeg, Int.reduceAdd, Int.reduceSub, Int.reduceMul, Int.reduceLE, Int.reduceLT, Int.reduceEq, Int.reduceToNat, reduceCtorEq] at hl
          rw [runD_eq find27 _ _ _ (by simp)]
          simp -implicitDefEqProofs (disch := omega) only [go_sem, Nat.reduceBEq, Nat.reduceAdd, Nat.reduceSub, Nat.reduceMul, Nat.reduceLeDiff, Nat.reduceEqDiff, Nat.reduceLT, Int.reduceNeg, Int.reduceAdd, Int.reduceSub, Int.reduceMul, Int.reduceLE, Int.reduceLT, Int.reduceEq, Int.reduceToNat, reduceCtorEq, hu, n0, l2, g9, g12, htk, Nat.add_sub_cancel, cob_cons, cob_len, entZ, IntWalk.i64_in]
          rw [hl]
          clear hl
          have hv := own_cases k2
          clear k2
          rcases hw with ⟨cw, rfl, h0⟩ | ⟨id, st, clip, rfl, hbk⟩
          · rw [h0] at heq
            simp only [u8s_nil] at heq
            cases ws' <;> simp only [wHeap, wPtr, wTail, List.map_cons, List.cons_append, List.nil_append] at kE k1 f1 ⊢ <;> rcases hv with ⟨cx, rfl⟩ | ⟨idx, stx, mx, clipx, rfl⟩ <;> simp -implicitDefEqProofs (disch := first | omega | (simp only [List.length_set]; omega)) only [go_sem, Nat.reduceBEq, Nat.reduceAdd, Nat.reduceSub, Nat.reduceMul, Nat.reduceLeDiff, Nat.reduceEqDiff, Nat.reduceLT, Int.reduceNeg, Int.reduceAdd, Int.reduceSub, Int.reduceMul, Int.reduceLE, Int.reduceLT, Int.reduceEq, Int.reduceToNat, reduceCtorEq, evC_draw, evD27x1, E27x1, kE, heq, gn, cob_len, cob_take, k1, f0, f1, z0, z1, List.getElem?_set_self, List.getElem?_set_ne, List.length_set, List.set_set, okN]
          · have hte := htb (entBytes ⟨t.toNat, ws'.isEmpty, ws'⟩)
            cases ws' <;> simp only [wHeap, wPtr, wTail, List.map_cons, List.cons_append, List.nil_append] at kE hbk k1 f1 ⊢ <;> rcases hv with ⟨cx, rfl⟩ | ⟨idx, stx, mx, clipx, rfl⟩ <;> simp -implicitDefEqProofs (disch := first | omega | (simp only [List.length_set]; omega)) only [go_sem, Nat.reduceBEq, Nat.reduceAdd, Nat.reduceSub, Nat.reduceMul, Nat.reduceLeDiff, Nat.reduceEqDiff, Nat.reduceLT, Int.reduceNeg, Int.reduceAdd, Int.reduceSub, Int.reduceMul, Int.reduceLE, Int.reduceLT, Int.reduceEq, Int.reduceToNat, reduceCtorEq, evC_draw, evD27x1, E27x1, kE, heq, gn, cob_len, cob_take, hbk, hte, k1, f0, f1, z0, z1, List.getElem?_set_self, List.getElem?_set_ne, List.length_set, List.set_set, okN]
        · have hrd : readS (t :: m :: rest) = none := by
            simp only [readS]
            cases hS : wsS m.toNat rest with
            | none => rfl
            | some q =>
              have := wsS_wsI _ _ hS
              rw [hR] at this
              simp only [Option.some.injEq] at this
              subst this
              simp only
              rw [if_neg (fun h => hq (hE.trans (back.2 ⟨hS, h.1, h.2⟩)))]
          rw [hrd]
          simp only [decide_eq_false hq] at heq
          refine ⟨.sl true 3 [], wHeap t.toNat ws' ++ tt, [], ?_, own_nil rfl, List.nodup_nil⟩
          simp only [wHeap, wPtr, wTail, go_sem, Nat.reduceBEq, Nat.reduceAdd, Nat.reduceSub, Nat.reduceMul, Nat.reduceLeDiff, Nat.reduceEqDiff, Nat.reduceLT, Int.reduceNeg, Int.reduceAdd, Int.reduceSub, Int.reduceMul, Int.reduceLE, Int.reduceLT, Int.reduceEq, Int.reduceToNat, reduceCtorEq] at hl
          rw [runD_eq find27 _ _ _ (by simp)]
          simp -implicitDefEqProofs (disch := omega) only [go_sem, Nat.reduceBEq, Nat.reduceAdd, Nat.reduceSub, Nat.reduceMul, Nat.reduceLeDiff, Nat.reduceEqDiff, Nat.reduceLT, Int.reduceNeg, Int.reduceAdd, Int.reduceSub, Int.reduceMul, Int.reduceLE, Int.reduceLT, Int.reduceEq, Int.reduceToNat, reduceCtorEq, hu, n0, l2, g9, g12, htk, Nat.add_sub_cancel, cob_cons, cob_len, entZ, IntWalk.i64_in]
          rw [hl]
          clear hl
          rcases hw with ⟨cw, rfl, h0⟩ | ⟨id, st, clip, rfl, hbk⟩
          · rw [h0] at heq
            simp only [u8s_nil] at heq
            cases ws' <;> simp only [wHeap, wPtr, wTail, List.map_cons, List.cons_append, List.nil_append] at kE  ⊢ <;> simp -implicitDefEqProofs (disch := first | omega | (simp only [List.length_set]; omega)) only [go_sem, Nat.reduceBEq, Nat.reduceAdd, Nat.reduceSub, Nat.reduceMul, Nat.reduceLeDiff, Nat.reduceEqDiff, Nat.reduceLT, Int.reduceNeg, Int.reduceAdd, Int.reduceSub, Int.reduceMul, Int.reduceLE, Int.reduceLT, Int.reduceEq, Int.reduceToNat, reduceCtorEq, evC_draw, evD27x1, E27x1, kE, heq, gn, cob_len, cob_take, List.set_cons_zero]
          · have hte := htb (entBytes ⟨t.toNat, ws'.isEmpty, ws'⟩)
            cases ws' <;> simp only [wHeap, wPtr, wTail, List.map_cons, List.cons_append, List.nil_append] at kE hbk  ⊢ <;> simp -implicitDefEqProofs (disch := first | omega | (simp only [List.length_set]; omega)) only [go_sem, Nat.reduceBEq, Nat.reduceAdd, Nat.reduceSub, Nat.reduceMul, Nat.reduceLeDiff, Nat.reduceEqDiff, Nat.reduceLT, Int.reduceNeg, Int.reduceAdd, Int.reduceSub, Int.reduceMul, Int.reduceLE, Int.reduceLT, Int.reduceEq, Int.reduceToNat, reduceCtorEq, evC_draw, evD27x1, E27x1, kE, heq, gn, cob_len, cob_take, hbk, hte, List.set_cons_zero]
end Go.Proofs.Yteaojpfofifmnaa.PE
/- A list of bytes that comes in, as the evaluator reads it. -/
set_option linter.unusedVariables false
set_option linter.unusedSimpArgs false
namespace Go.Proofs.Yteaojpfofifmnaa.PE
open Go.RowKit

def IsRow (w : World) (a : Option Addr) (len cap : Nat) : Prop :=
  (a = none ∧ len = 0 ∧ cap = 0) ∨
  ∃ (x : Addr) (zs : List Int), a = some x ∧ len ≤ cap ∧ cap ≤ maxLen ∧ zs.length = cap ∧ (∀ i, i < zs.length → w.cell? (x.add i) = some (.int .u8 (zs.getD i 0))) ∧ ∀ n ∈ zs, (Lit.int .u8 n).wf = true

theorem IsRow.rep {w : World} {a : Option Addr} {len cap : Nat} (h : IsRow w a len cap) : ∃ l : List UInt8, l.length ≤ maxLen ∧ RepA w (fun b => b < w.heap.size) (.slice a len cap) (.sl false 1 (cellsOfBytes l)) := by
  rcases h with ⟨rfl, rfl, rfl⟩ | ⟨x, zs, rfl, h1, h2, h3, h4, h5⟩
  · exact ⟨[], Nat.zero_le _, rep_empty (by decide) (fun h => by cases h)⟩
  · have hb : ∀ i, i < zs.length → 0 ≤ zs.getD i 0 ∧ zs.getD i 0 < 256 := fun i hi => by
      have := h5 (zs.getD i 0) (by rw [List.getD_eq_getElem?_getD, List.getElem?_eq_getElem hi]; exact List.getElem_mem hi)
      simp only [Lit.wf, decide_eq_true_eq] at this
      have h1 : IntKind.u8.min = 0 := rfl
      have h2 : IntKind.u8.max = 255 := rfl
      simp only [Bool.and_eq_true, decide_eq_true_eq, h1, h2] at this
      omega
    refine ⟨(zs.take len).map fun z => UInt8.ofNat z.toNat, by simp; omega, ?_⟩
    refine Rep.sl (some x) len cap false _ 1 (fun j _ => .int .u8 (zs.getD j 0)) (by simp [cellsOfBytes]; omega) h1 (fun h => by cases h) (by decide) (fun y hy => ?_) (fun hn => ?_) (fun j c y z hy hz => ?_)
    · simp only [cellsOfBytes, List.mem_map] at hy
      obtain ⟨b, _, rfl⟩ := hy
      rfl
    · obtain ⟨g, o, sp⟩ := x
      have h0 := h4 0 (by omega)
      have hsp : sp = none := by
        simp only [Addr.add, if_true] at h0
        unfold World.cell? at h0
        cases sp with
        | none => rfl
        | some s => simp at h0; split at h0 <;> cases h0
      subst hsp
      refine ⟨g, o, rfl, ?_, fun j c y z hy hz => ?_⟩
      · simp only [Addr.add, if_true] at h0
        unfold World.cell? at h0
        rcases Nat.lt_or_ge g w.heap.size with hg | hg
        · exact hg
        · rw [Array.getElem?_eq_none hg] at h0; cases h0
      · have hj : j < ((zs.take len).map fun z => UInt8.ofNat z.toNat).length := by
          have := (List.getElem?_eq_some_iff.1 hy).1
          simpa [cellsOfBytes] using this
        simp only [List.length_map, List.length_take] at hj
        simp only [cellsOfBytes, List.getElem?_map] at hy
        obtain ⟨b, _, rfl⟩ := Option.map_eq_some_iff.1 hy
        have hc : c = 0 := by
          have := (List.getElem?_eq_some_iff.1 hz).1
          simp at this
          omega
        subst hc
        have := h4 j (by omega)
        rw [add0] at this
        simpa using this
    · have hj : j < zs.length := by
        have := (List.getElem?_eq_some_iff.1 hy).1
        simp [cellsOfBytes] at this
        omega
      have hjl : j < len := by
        have := (List.getElem?_eq_some_iff.1 hy).1
        simp [cellsOfBytes] at this
        omega
      have hbj := hb j hj
      have hc : c = 0 := by
        simp only [cellsOfBytes, List.getElem?_map] at hy
        obtain ⟨b, _, rfl⟩ := Option.map_eq_some_iff.1 hy
        have := (List.getElem?_eq_some_iff.1 hz).1
        simp at this
        omega
      subst hc
      rw [List.getD_eq_getElem?_getD, List.getElem?_eq_getElem hj] at hbj
      simp [cellsOfBytes, List.getElem?_take_of_lt hjl, List.getElem?_eq_getElem hj] at hy
      subst hy
      simp at hz
      subst hz
      simp only [Option.getD_some] at hbj
      have e : ((UInt8.ofNat (zs[j]).toNat).toNat : Int) = zs[j] := by
        simp
        omega
      simp only [List.getD_eq_getElem?_getD, List.getElem?_eq_getElem hj, Option.getD_some]
      rw [show max zs[j] 0 % 256 = zs[j] by omega]
      exact .int _ _
end Go.Proofs.Yteaojpfofifmnaa.PE
/- Arguments of any plain kind, as they are read: values of the evaluator. -/
set_option linter.unusedVariables false
set_option linter.unusedSimpArgs false
namespace Go.Proofs.Yteaojpfofifmnaa.PE
open Go.RowKit

mutual
def tyF (P : Program) : Nat → TypeId → Fd → Bool
  | 0, _, _ => false
  | n + 1, t, .int k => match P.underlying t with
    | some (.int k') => decide (k' = k)
    | _ => false
  | n + 1, t, .bool => match P.underlying t with
    | some .bool => true
    | _ => false
  | n + 1, t, .str => match P.underlying t with
    | some .string => true
    | _ => false
  | n + 1, t, .sub fs => match P.underlying t with
    | some (.slice e) => decide (P.cellsOf e = fs.length) && decide (0 < fs.length) && tyR P n e fs
    | _ => false
def tyR (P : Program) : Nat → TypeId → List Fd → Bool
  | 0, _, _ => false
  | n + 1, t, fs => match P.underlying t with
    | some (.struct flds) => decide (P.cellsOf t = fs.length) && tyS P n flds.toList 0 fs
    | _ => match fs with
      | [f] => tyF P n t f
      | _ => false
def tyS (P : Program) : Nat → List Field → Nat → List Fd → Bool
  | 0, _, _, _ => false
  | n + 1, [], _, fs => fs.isEmpty
  | n + 1, fl :: r, off, fs => decide (fl.offset = off) && tyR P n fl.type (fs.take (P.cellsOf fl.type)) && decide (P.cellsOf fl.type ≤ fs.length) && tyS P n r (off + P.cellsOf fl.type) (fs.drop (P.cellsOf fl.type))
end

def B63 : Nat := 9223372036854775807
section
variable {H : Type} {enc : TypeId × Value → H} {P : Program} {w : World} {base : Nat} {spare : Nat → Bool} {held : Bool}

/-- Cells and what they are. -/
def Got (w : World) (fs : List Fd) (cs : List Value) : Prop := ∃ (ps : List V) (us : List U), PurR fs ps us ∧ LenR B63 B63 fs us ∧ ps.length = cs.length ∧ ∀ (i : Nat) (y : V), ps[i]? = some y → ∃ u, cs[i]? = some u ∧ Rep w (fun b => b < w.heap.size) u y
theorem Got.one {f : Fd} {v : Value} {p : V} {u : U} (h1 : PurF f p u) (h2 : LenF B63 B63 f u) (h3 : Rep w (fun b => b < w.heap.size) v p) : Got w [f] [v] := by
  refine ⟨[p], [u], by simp only [PurR]; exact ⟨p, [], u, [], rfl, rfl, h1, rfl, rfl⟩, by simp only [LenR]; exact ⟨h2, trivial⟩, rfl, fun i y hy => ?_⟩
  cases i with
  | zero => simp at hy; subst hy; exact ⟨v, rfl, h3⟩
  | succ i => simp at hy
theorem PurR_len : ∀ {fs : List Fd} {ps : List V} {us : List U}, PurR fs ps us → ps.length = fs.length ∧ us.length = fs.length
  | [], _, _, h => by simp only [PurR] at h; rw [h.1, h.2]; exact ⟨rfl, rfl⟩
  | f :: fs, _, _, h => by
    simp only [PurR] at h
    obtain ⟨v, c', u, x', rfl, rfl, _, h2⟩ := h
    have := PurR_len h2
    simp [this.1, this.2]
theorem PurR_app : ∀ {f1 f2 : List Fd} {p1 p2 : List V} {u1 u2 : List U}, PurR f1 p1 u1 → PurR f2 p2 u2 → PurR (f1 ++ f2) (p1 ++ p2) (u1 ++ u2)
  | [], _, _, _, _, _, h, h2 => by simp only [PurR] at h; rw [h.1, h.2]; exact h2
  | f :: f1, f2, _, p2, _, u2, h, h2 => by
    simp only [PurR] at h
    obtain ⟨v, c', u, x', rfl, rfl, h3, h4⟩ := h
    show PurR (f :: (f1 ++ f2)) _ _
    simp only [PurR]
    exact ⟨v, c' ++ p2, u, x' ++ u2, rfl, rfl, h3, PurR_app h4 h2⟩
theorem LenR_app {n m : Nat} : ∀ {f1 f2 : List Fd} {u1 u2 : List U}, u1.length = f1.length → LenR n m f1 u1 → LenR n m f2 u2 → LenR n m (f1 ++ f2) (u1 ++ u2)
  | [], _, u1, _, hl, _, h2 => by
    have : u1 = [] := List.eq_nil_of_length_eq_zero hl
    subst this
    exact h2
  | f :: f1, f2, u :: u1, u2, hl, h, h2 => by
    show LenR n m (f :: (f1 ++ f2)) (u :: (u1 ++ u2))
    simp only [LenR] at h ⊢
    exact ⟨h.1, LenR_app (by simpa using hl) h.2 h2⟩
  | _ :: _, _, [], _, hl, _, _ => by simp at hl
theorem Got.app {f1 f2 : List Fd} {c1 c2 : List Value} (h1 : Got w f1 c1) (h2 : Got w f2 c2) : Got w (f1 ++ f2) (c1 ++ c2) := by
  obtain ⟨p1, u1, a1, a2, a3, a4⟩ := h1
  obtain ⟨p2, u2, b1, b2, b3, b4⟩ := h2
  refine ⟨p1 ++ p2, u1 ++ u2, PurR_app a1 b1, LenR_app (PurR_len a1).2 a2 b2, by simp [a3, b3], fun i y hy => ?_⟩
  rcases Nat.lt_or_ge i p1.length with hi | hi
  · rw [List.getElem?_append_left hi] at hy
    obtain ⟨u, hu, hr⟩ := a4 i y hy
    exact ⟨u, by rw [List.getElem?_append_left (by omega)]; exact hu, hr⟩
  · rw [List.getElem?_append_right hi] at hy
    obtain ⟨u, hu, hr⟩ := b4 _ y hy
    exact ⟨u, by rw [List.getElem?_append_right (by omega), ← a3]; exact hu, hr⟩

theorem plain_addr {a : Addr} {v : Value} (h : w.cell? a = some v) : ∃ g o, a = ⟨g, o, none⟩ ∧ g < w.heap.size := by
  obtain ⟨g, o, sp⟩ := a
  unfold World.cell? at h
  have hg : g < w.heap.size := by
    rcases Nat.lt_or_ge g w.heap.size with h1 | h1
    · exact h1
    · rw [Array.getElem?_eq_none h1] at h; cases sp <;> simp at h
  cases sp with
  | none => exact ⟨g, o, rfl, hg⟩
  | some s => simp at h; split at h <;> cases h

/-- A slice out of its elements. -/
theorem got_slice {fs : List Fd} {a : Addr} {len cap : Nat} (hpos : 0 < fs.length) (hl : len ≤ cap) (hm : cap ≤ maxLen) (hx : ∀ i, i < len → ∃ cs', w.cells? base (a.add (i * fs.length)) fs.length = some cs' ∧ Got w fs cs') :
    Got w [.sub fs] [.slice (some a) len cap] := by
  have hx' : ∀ i, i < len → ∃ q : List V × List U × List Value, w.cells? base (a.add (i * fs.length)) fs.length = some q.2.2 ∧ PurR fs q.1 q.2.1 ∧ LenR B63 B63 fs q.2.1 ∧ q.1.length = q.2.2.length ∧ ∀ (j : Nat) (y : V), q.1[j]? = some y → ∃ u, q.2.2[j]? = some u ∧ Rep w (fun b => b < w.heap.size) u y := by
    intro i hi
    obtain ⟨cs', h1, ps, us, h2, h3, h4, h5⟩ := hx i hi
    exact ⟨(ps, us, cs'), h1, h2, h3, h4, h5⟩
  obtain ⟨q, hq⟩ := Go.Deep.choose_lt hx'
  have hzip : ∀ (n : Nat), n ≤ len → Zip2 (PurR fs) ((List.range n).map fun i => (q i).1) ((List.range n).map fun i => (q i).2.1) ∧ AllU (LenR B63 B63 fs) ((List.range n).map fun i => (q i).2.1) := by
    have z2 : ∀ {l1 : List (List V)} {l2 : List (List U)} {c : List V} {x : List U}, Zip2 (PurR fs) l1 l2 → PurR fs c x → Zip2 (PurR fs) (l1 ++ [c]) (l2 ++ [x]) := by
      intro l1
      induction l1 with
      | nil => intro l2 c x h hc; cases l2 with
        | nil => exact ⟨hc, trivial⟩
        | cons b bs => exact h.elim
      | cons a l1 ih => intro l2 c x h hc; cases l2 with
        | nil => exact h.elim
        | cons b bs => exact ⟨h.1, ih h.2 hc⟩
    have a2 : ∀ {l2 : List (List U)} {x : List U}, AllU (LenR B63 B63 fs) l2 → LenR B63 B63 fs x → AllU (LenR B63 B63 fs) (l2 ++ [x]) := by
      intro l2
      induction l2 with
      | nil => intro x _ hx; exact ⟨hx, trivial⟩
      | cons b bs ih => intro x h hx; exact ⟨h.1, ih h.2 hx⟩
    intro n
    induction n with
    | zero => intro _; exact ⟨trivial, trivial⟩
    | succ n ih =>
      intro hn
      obtain ⟨i1, i2⟩ := ih (by omega)
      obtain ⟨_, b1, b2, _⟩ := hq n (by omega)
      rw [List.range_succ, List.map_append, List.map_append]
      exact ⟨z2 i1 b1, a2 i2 b2⟩
  obtain ⟨z1, z2⟩ := hzip len (Nat.le_refl _)
  have hml : maxLen = 9223372036854775807 := by decide
  refine Got.one (p := .sl false fs.length ((List.range len).map fun i => (q i).1)) (u := .sub ((List.range len).map fun i => (q i).2.1)) ?_ ?_ ?_
  · simp only [PurF]
    exact ⟨false, _, _, rfl, rfl, z1⟩
  · simp only [LenF, List.length_map, List.length_range]
    exact ⟨by unfold B63; omega, z2⟩
  · have hlen : ∀ j x, ((List.range len).map fun i => (q i).1)[j]? = some x → j < len ∧ x = (q j).1 := by
      intro j x hx
      rw [List.getElem?_map] at hx
      obtain ⟨k, hk, rfl⟩ := Option.map_eq_some_iff.1 hx
      have hj : j < len := by
        have := (List.getElem?_eq_some_iff.1 hk).1
        simpa using this
      rw [List.getElem?_range hj] at hk
      injection hk with hk
      subst hk
      exact ⟨hj, rfl⟩
    have hcell : ∀ (j c : Nat) (y : V), j < len → (q j).1[c]? = some y → ∃ u, (q j).2.2[c]? = some u ∧ w.cell? ((a.add (j * fs.length)).add c) = some u ∧ Rep w (fun b => b < w.heap.size) u y := by
      intro j c y hj hy
      obtain ⟨h1, h2, h3, h4, h5⟩ := hq j hj
      obtain ⟨_, h6, h7⟩ := World.cells?_some h1
      obtain ⟨u, hu, hr⟩ := h5 c y hy
      have hc : c < fs.length := by
        have := (List.getElem?_eq_some_iff.1 hu).1
        omega
      exact ⟨u, hu, (h7 c hc).trans hu, hr⟩
    refine Rep.sl (some a) len cap false _ fs.length (fun j c => ((q j).2.2[c]?).getD undef) (by simp) hl (fun e => by cases e) hpos (fun x hx => ?_) (fun hn => ?_) (fun j c x y hx hy => ?_)
    · obtain ⟨j, hj⟩ := List.getElem?_of_mem hx
      obtain ⟨h1, rfl⟩ := hlen j x hj
      exact (PurR_len (hq j h1).2.1).1
    · have h0 := (PurR_len (hq 0 hn).2.1).1
      have hy0 : (q 0).1[0]? = some (q 0).1[0] := List.getElem?_eq_getElem (by omega)
      obtain ⟨u0, _, c0, _⟩ := hcell 0 0 _ hn hy0
      rw [Nat.zero_mul] at c0
      have ha : (a.add 0).add 0 = a := by simp [Addr.add]
      rw [ha] at c0
      obtain ⟨g, o, rfl, hg⟩ := plain_addr c0
      refine ⟨g, o, rfl, hg, fun j c x y hx hy => ?_⟩
      obtain ⟨h1, rfl⟩ := hlen j x hx
      obtain ⟨u, hu, hc, _⟩ := hcell j c y h1 hy
      rw [add0, add0] at hc
      rw [hc, hu]
      rfl
    · obtain ⟨h1, rfl⟩ := hlen j x hx
      obtain ⟨u, hu, _, hr⟩ := hcell j c y h1 hy
      show Rep w _ (((q j).2.2[c]?).getD undef) y
      rw [hu]
      exact hr

mutual
theorem gotF : ∀ (n : Nat) {t : TypeId} {f : Fd} {fuel : Nat} {cs : List Value} {x : DataW H × List MemPlace}, tyF P n t f = true → DataW.trod enc P w base spare held fuel t cs = some x → Got w [f] cs
  | 0, _, _, _, _, _, ht, _ => by simp [tyF] at ht
  | n + 1, t, .int k, fuel, cs, x, ht, h => by
    simp only [tyF] at ht
    split at ht
    · rename_i k' hu
      simp only [decide_eq_true_eq] at ht
      subst ht
      obtain ⟨m, rfl, _, _⟩ := DataW.trod_int hu h
      exact Got.one (p := .int k' m) (u := .int m) (by simp only [PurF]; exact ⟨m, rfl, rfl⟩) (by simp [LenF]) (.int _ _)
    · cases ht
  | n + 1, t, .bool, fuel, cs, x, ht, h => by
    simp only [tyF] at ht
    split at ht
    · rename_i hu
      obtain ⟨m, rfl, _⟩ := DataW.trod_bool hu h
      exact Got.one (p := .bool m) (u := .bool m) (by simp only [PurF]; exact ⟨m, rfl, rfl⟩) (by simp [LenF]) (.bool _)
    · cases ht
  | n + 1, t, .str, fuel, cs, x, ht, h => by
    simp only [tyF] at ht
    split at ht
    · rename_i hu
      obtain ⟨m, rfl, _, hm⟩ := DataW.trod_string hu h
      have hml : maxLen = 9223372036854775807 := by decide
      exact Got.one (p := .str m) (u := .str m) (by simp only [PurF]; exact ⟨m, rfl, rfl⟩) (by simp only [LenF]; unfold B63; omega) (.str _)
    · cases ht
  | n + 1, t, .sub fs, fuel, cs, x, ht, h => by
    simp only [tyF] at ht
    split at ht
    · rename_i e hu
      simp only [Bool.and_eq_true, decide_eq_true_eq] at ht
      obtain ⟨⟨hc, hpos⟩, hr⟩ := ht
      rcases Go.Deep.open_slice hu h with ⟨rfl, _⟩ | ⟨a, len, cap, m, k, D, Pl, rfl, hb, hl, hm, hmm, _, hx⟩
      · exact Got.one (p := .sl true fs.length []) (u := .sub []) (by rw [PurF]; exact ⟨true, [], [], rfl, rfl, trivial⟩) (by simp only [LenF]; exact ⟨Nat.zero_le _, trivial⟩) (rep_empty hpos (fun _ => rfl))
      · refine got_slice (base := base) hpos hl hm (fun i hi => ?_)
        obtain ⟨cs', h1, h2⟩ := hx i (by rw [hmm]; split <;> omega)
        rw [hc] at h1
        exact ⟨cs', h1, gotR n hr h2⟩
    · cases ht
theorem gotR : ∀ (n : Nat) {t : TypeId} {fs : List Fd} {fuel : Nat} {cs : List Value} {x : DataW H × List MemPlace}, tyR P n t fs = true → DataW.trod enc P w base spare held fuel t cs = some x → Got w fs cs
  | 0, _, _, _, _, _, ht, _ => by simp [tyR] at ht
  | n + 1, t, fs, fuel, cs, x, ht, h => by
    simp only [tyR] at ht
    split at ht
    · rename_i flds hu
      simp only [Bool.and_eq_true, decide_eq_true_eq] at ht
      obtain ⟨xs, k, _, _, hcl, hxl, hf⟩ := DataW.trod_struct hu h
      refine gotS n (cs := cs) (off := 0) (fuel := k) ht.2 (by omega) (fun i fl hi => ?_)
      have hlt : i < xs.length := by
        have := (List.getElem?_eq_some_iff.1 hi).1
        simp at this
        omega
      rw [Array.getElem?_toList] at hi
      exact ⟨xs[i], by rw [hf i fl hi, List.getElem?_eq_getElem hlt]⟩
    · split at ht
      · rename_i f
        exact gotF n ht h
      · cases ht
theorem gotS : ∀ (n : Nat) {flds : List Field} {off : Nat} {fs : List Fd} {fuel : Nat} {cs : List Value}, tyS P n flds off fs = true → cs.length = off + fs.length → (∀ (i : Nat) (fl : Field), flds[i]? = some fl → ∃ x, DataW.trod enc P w base spare held fuel fl.type ((cs.drop fl.offset).take (P.cellsOf fl.type)) = some x) → Got w fs (cs.drop off)
  | 0, _, _, _, _, _, ht, _, _ => by simp [tyS] at ht
  | n + 1, [], off, fs, fuel, cs, ht, hl, _ => by
    simp only [tyS, List.isEmpty_iff] at ht
    subst ht
    rw [List.drop_of_length_le (by simp at hl; omega)]
    exact ⟨[], [], by simp [PurR], by simp [LenR], rfl, fun i y hy => by simp at hy⟩
  | n + 1, fl :: r, off, fs, fuel, cs, ht, hl, hx => by
    simp only [tyS, Bool.and_eq_true, decide_eq_true_eq] at ht
    obtain ⟨⟨⟨ho, h1⟩, hle⟩, h2⟩ := ht
    obtain ⟨x, hx0⟩ := hx 0 fl rfl
    rw [ho] at hx0
    have g1 := gotR n h1 hx0
    have g2 := gotS n (cs := cs) (off := off + P.cellsOf fl.type) h2 (by rw [List.length_drop]; omega) (fun i f hi => hx (i + 1) f (by simpa using hi))
    have g := g1.app g2
    rw [List.take_append_drop] at g
    rw [← List.drop_drop, List.take_append_drop] at g
    exact g
end
end
end Go.Proofs.Yteaojpfofifmnaa.PE
/- A list of bytes that comes in, as a tree. -/
set_option linter.unusedSimpArgs false
set_option linter.unusedVariables false
namespace Go.Proofs.Yteaojpfofifmnaa.PE
open Go.RowKit

def bsU (l : List UInt8) : List (List U) := l.map fun b => [U.int b.toNat]
theorem bsU_by (l : List UInt8) : bsU l = byU (toI l) := by simp [bsU, byU, toI]
theorem bs_pur (c : Bool) (l : List UInt8) : PurF (.sub fdByte) (.sl c 1 (cellsOfBytes l)) (.sub (bsU l)) := by
  rw [bsU_by, cob_u8s]
  exact by_pur c (toI l)
theorem bs_each {l : List UInt8} {q : V} (k : PurF (.sub fdByte) q (.sub (bsU l))) : ∃ c, q = .sl c 1 (cellsOfBytes l) := by
  rw [bsU_by] at k
  obtain ⟨c, ct, rfl, hz⟩ := purS_Byte k
  obtain ⟨xs, rfl, h2⟩ := typ_of (f := fun n : Int => [V.int .u8 n]) (g := fun n : Int => [U.int n]) (fun c x hr => by
    obtain ⟨a, rfl, rfl⟩ := purR_Byte hr
    exact ⟨a, rfl, rfl⟩) hz
  have : toI l = xs := by
    have h3 : (toI l).map (fun n : Int => [U.int n]) = xs.map (fun n : Int => [U.int n]) := h2
    refine (List.map_inj_right (fun x y hxy => ?_)).1 h3
    simpa using hxy
  refine ⟨c, ?_⟩
  rw [cob_u8s, this]
  rfl
theorem IsRow.got {w : World} {a : Option Addr} {len cap : Nat} (h : IsRow w a len cap) : ∃ p xs, Rep w (fun b => b < w.heap.size) (.slice a len cap) p ∧ PurF (.sub fdByte) p (.sub xs) ∧ LenF B63 B63 (.sub fdByte) (.sub xs) ∧ ∃ bs : List UInt8, xs = bsU bs := by
  obtain ⟨l, hl, hrep⟩ := h.rep
  refine ⟨_, _, hrep, bs_pur false l, ?_, l, rfl⟩
  rw [bsU_by]
  exact by_lenF (by rw [toI_len]; exact Nat.le_trans hl (by decide))
end Go.Proofs.Yteaojpfofifmnaa.PE
/- Entries read: what both functions come to, for the exact statement. -/
set_option linter.unusedSimpArgs false
set_option linter.unusedVariables false
set_option maxHeartbeats 4000000
namespace Go.Proofs.Yteaojpfofifmnaa.PE
open Go.RowKit

end Go.Proofs.Yteaojpfofifmnaa.PE
/- Logs read: the reference. -/
set_option linter.unusedSimpArgs false
set_option linter.unusedVariables false
set_option maxHeartbeats 8000000
set_option maxRecDepth 20000
namespace Go.Proofs.Yteaojpfofifmnaa.PE
open Go.RowKit

/-- The entries that bytes begin with, behind others, as long as all are a log. -/
def lFrom : Nat → List Ent → List UInt8 → List Ent
  | 0, out, _ => out
  | f + 1, out, b => if (eFrom b).2 = 0 then out else if logOk (out ++ [(eFrom b).1]) = true then lFrom f (out ++ [(eFrom b).1]) (b.drop (eFrom b).2) else out
theorem lim_snoc {out : List Ent} (h : LimE out) (hl : out.length ≤ 12) {e : Ent} (he : LimE [e]) : LimE (out ++ [e]) := by
  refine ⟨by simp; omega, fun x hx => ?_⟩
  rcases List.mem_append.1 hx with hx | hx
  · exact h.2 x hx
  · exact he.2 x hx
theorem lFrom_ok : ∀ (f : Nat) (out : List Ent) (b : List UInt8), LimE out → logOk out = true → LimE (lFrom f out b) ∧ logOk (lFrom f out b) = true
  | 0, out, b, h1, h2 => ⟨h1, h2⟩
  | f + 1, out, b, h1, h2 => by
    simp only [lFrom]
    split
    · exact ⟨h1, h2⟩
    · split
      · rename_i ho
        exact lFrom_ok f _ _ (lim_snoc h1 (log_len h2) (eFrom_lim b)) ho
      · exact ⟨h1, h2⟩
theorem lFrom_nil (f : Nat) (out : List Ent) : lFrom f out [] = out := by cases f <;> rfl
-- find33
theorem loop_lfS (d : Nat) (c : Bool) (b : List UInt8) (hb : b.length < 1099511627776) : ∀ (f : Nat) (out : List Ent) (p : Nat), out.length + f = 13 → p ≤ b.length → LimE out → logOk out = true → ∀ K, f ≤ K →
    LoopS (runD tab noExt (d + 8)) (drawI (runD tab noExt (d + 8))) [0, 3, 4] [2, 3] L33x0 2 K [(0, .sl c 1 (cellsOfBytes b)), (3, .ref 1 out.length 0 out.length false), (4, .int .i64 p)] [.rows 0 2 [], .rows out.length 2 (out.map Ent.cells)] = some (.ret, [(2, .ref 1 (lFrom f out (b.drop p)).length 0 (lFrom f out (b.drop p)).length false), (3, .ref 1 (lFrom f out (b.drop p)).length 0 (lFrom f out (b.drop p)).length false)], [.rows 0 2 [], .rows (lFrom f out (b.drop p)).length 2 ((lFrom f out (b.drop p)).map Ent.cells)]) ∨
    LoopS (runD tab noExt (d + 8)) (drawI (runD tab noExt (d + 8))) [0, 3, 4] [2, 3] L33x0 2 K [(0, .sl c 1 (cellsOfBytes b)), (3, .ref 1 out.length 0 out.length false), (4, .int .i64 p)] [.rows 0 2 [], .rows out.length 2 (out.map Ent.cells)] = some (.exit 0, [(2, .undef), (3, .ref 1 (lFrom f out (b.drop p)).length 0 (lFrom f out (b.drop p)).length false)], [.rows 0 2 [], .rows (lFrom f out (b.drop p)).length 2 ((lFrom f out (b.drop p)).map Ent.cells)])
  | 0, out, p, hf, hp, h1, h2, K, hK => by
    have := log_len h2
    omega
  | f + 1, out, p, hf, hp, h1, h2, K, hK => by
    obtain ⟨K, rfl⟩ : ∃ k', K = k' + 1 := ⟨K - 1, by omega⟩
    have hl12 := log_len h2
    by_cases hlt : p < b.length
    · have g1 : (p : Int) < b.length := by omega
      have g2 : (p : Int) ≤ b.length := by omega
      have hv := run_eFromS d c (b.drop p) (by rw [List.length_drop]; omega)
      have htk : List.take (b.length - p) (cellsOfBytes (b.drop p)) = cellsOfBytes (b.drop p) := List.take_of_length_le (by rw [cob_len, List.length_drop]; omega)
      have hlim := lim_snoc h1 hl12 (eFrom_lim (b.drop p))
      obtain ⟨_, e2, e3⟩ := hlim.fine
      have hlo : ∀ c, retP (runD tab noExt (d + 8)) 63 [.sl c 2 ((out ++ [(eFrom (b.drop p)).1]).map Ent.cells)] = some [.bool (logOk (out ++ [(eFrom (b.drop p)).1]))] := fun c => run_logS (d + 3) c _ e3 e2
      simp only [List.map_append, List.map_cons, List.map_nil, Ent.cells, Ent.v] at hlo hv
      have hto : List.take out.length (out.map Ent.cells) = out.map Ent.cells := List.take_of_length_le (by simp)
      have htn : ∀ x, List.take (out.length + 1) (out.map Ent.cells ++ [x]) = out.map Ent.cells ++ [x] := fun x => List.take_of_length_le (by simp)
      have sm1 : out.length < 4294967296 := by omega
      have sm2 : out.length + 1 < 4294967296 := by omega
      simp only [lFrom]
      by_cases hn : (eFrom (b.drop p)).2 = 0
      · left
        have g3 : ((eFrom (b.drop p)).2 : Int) = 0 := by omega
        rw [if_pos hn, LoopS_eq]
        simp -implicitDefEqProofs (disch := omega) only [go_sem, Nat.reduceBEq, Nat.reduceAdd, Nat.reduceSub, Nat.reduceMul, Nat.reduceLeDiff, Nat.reduceEqDiff, Nat.reduceLT, Int.reduceNeg, Int.reduceAdd, Int.reduceSub, Int.reduceMul, Int.reduceLE, Int.reduceLT, Int.reduceEq, Int.reduceToNat, reduceCtorEq, evL33x0, B33x0, evC_draw, evD33x0, E33x0, g1, g2, g3, cob_len, cob_drop, htk, hv, elemsOf, elemOf]
      · have g3 : (((eFrom (b.drop p)).2 : Int) = 0) = False := eq_false (by omega)
        rw [if_neg hn]
        cases ho : logOk (out ++ [(eFrom (b.drop p)).1])
        · left
          rw [ho] at hlo
          simp only [Bool.false_eq_true, if_false]
          rw [LoopS_eq]
          simp -implicitDefEqProofs (disch := omega) only [go_sem, Nat.reduceBEq, Nat.reduceAdd, Nat.reduceSub, Nat.reduceMul, Nat.reduceLeDiff, Nat.reduceEqDiff, Nat.reduceLT, Int.reduceNeg, Int.reduceAdd, Int.reduceSub, Int.reduceMul, Int.reduceLE, Int.reduceLT, Int.reduceEq, Int.reduceToNat, reduceCtorEq, evL33x0, B33x0, evC_draw, evD33x0, E33x0, g1, g2, g3, cob_len, cob_drop, htk, hv, hlo, hto, htn, sm1, sm2, elemsOf, elemOf]
        · rw [ho] at hlo
          have hle := eFrom_le (b.drop p)
          rw [List.length_drop] at hle
          have ih := loop_lfS d c b hb f (out ++ [(eFrom (b.drop p)).1]) (p + (eFrom (b.drop p)).2) (by simp; omega) (by omega) hlim ho K (by omega)
          rw [← List.drop_drop] at ih
          simp only [if_true]
          have step : LoopS (runD tab noExt (d + 8)) (drawI (runD tab noExt (d + 8))) [0, 3, 4] [2, 3] L33x0 2 (K + 1) [(0, .sl c 1 (cellsOfBytes b)), (3, .ref 1 out.length 0 out.length false), (4, .int .i64 p)] [.rows 0 2 [], .rows out.length 2 (out.map Ent.cells)] = LoopS (runD tab noExt (d + 8)) (drawI (runD tab noExt (d + 8))) [0, 3, 4] [2, 3] L33x0 2 K [(0, .sl c 1 (cellsOfBytes b)), (3, .ref 1 (out ++ [(eFrom (b.drop p)).1]).length 0 (out ++ [(eFrom (b.drop p)).1]).length false), (4, .int .i64 (p + (eFrom (b.drop p)).2 : Nat))] [.rows 0 2 [], .rows (out ++ [(eFrom (b.drop p)).1]).length 2 ((out ++ [(eFrom (b.drop p)).1]).map Ent.cells)] := by
            rw [LoopS_eq]
            simp -implicitDefEqProofs (disch := omega) only [go_sem, Nat.reduceBEq, Nat.reduceAdd, Nat.reduceSub, Nat.reduceMul, Nat.reduceLeDiff, Nat.reduceEqDiff, Nat.reduceLT, Int.reduceNeg, Int.reduceAdd, Int.reduceSub, Int.reduceMul, Int.reduceLE, Int.reduceLT, Int.reduceEq, Int.reduceToNat, reduceCtorEq, evL33x0, B33x0, evC_draw, evD33x0, E33x0, g1, g2, g3, cob_len, cob_drop, htk, hv, hlo, hto, htn, sm1, sm2, elemsOf, elemOf, List.map_append, List.length_append, Ent.cells, Ent.v, IntWalk.i64_in]
          rw [step]
          exact ih
    · right
      have g1 : ((p : Int) < b.length) = False := eq_false (by omega)
      have e : b.drop p = [] := List.drop_eq_nil_of_le (by omega)
      rw [e, lFrom_nil, LoopS_eq]
      simp -implicitDefEqProofs (disch := omega) only [go_sem, Nat.reduceBEq, Nat.reduceAdd, Nat.reduceSub, Nat.reduceMul, Nat.reduceLeDiff, Nat.reduceEqDiff, Nat.reduceLT, Int.reduceNeg, Int.reduceAdd, Int.reduceSub, Int.reduceMul, Int.reduceLE, Int.reduceLT, Int.reduceEq, Int.reduceToNat, reduceCtorEq, evL33x0, B33x0, g1, cob_len]
end Go.Proofs.Yteaojpfofifmnaa.PE
/- Logs read: both functions. -/
set_option linter.unusedSimpArgs false
set_option linter.unusedVariables false
set_option maxHeartbeats 8000000
set_option maxRecDepth 20000
namespace Go.Proofs.Yteaojpfofifmnaa.PE
open Go.RowKit

-- find33
theorem run_lFromS (d : Nat) (c : Bool) (b : List UInt8) (hb : b.length < 1099511627776) : ∃ cw, retP (runD tab noExt (d + 9)) 33 [.sl c 1 (cellsOfBytes b)] = some [.sl cw 2 ((lFrom 13 [] b).map Ent.cells)] := by
  have hl := loop_lfS d c b hb 13 [] 0 rfl (by omega) ⟨by simp, fun e he => by cases he⟩ rfl 1099511627775 (by omega)
  simp only [List.drop_zero, List.length_nil, List.map_nil, Int.natCast_zero] at hl
  have ht : List.take (lFrom 13 [] b).length ((lFrom 13 [] b).map Ent.cells) = (lFrom 13 [] b).map Ent.cells := List.take_of_length_le (by simp)
  generalize lFrom 13 [] b = L at hl ht ⊢
  refine ⟨false, ?_⟩
  rw [retP, runD_eq find33 _ _ _ (by simp)]
  simp -implicitDefEqProofs (disch := omega) only [go_sem, Nat.reduceBEq, Nat.reduceAdd, Nat.reduceSub, Nat.reduceMul, Nat.reduceLeDiff, Nat.reduceEqDiff, Nat.reduceLT, Int.reduceNeg, Int.reduceAdd, Int.reduceSub, Int.reduceMul, Int.reduceLE, Int.reduceLT, Int.reduceEq, Int.reduceToNat, reduceCtorEq, elemsOf, elemOf]
  rcases hl with hl | hl
  · try simp -implicitDefEqProofs only [go_sem, Nat.reduceBEq, Nat.reduceAdd, Nat.reduceSub, Nat.reduceMul, Nat.reduceLeDiff, Nat.reduceEqDiff, Nat.reduceLT, Int.reduceNeg, Int.reduceAdd, Int.reduceSub, Int.reduceMul, Int.reduceLE, Int.reduceLT, Int.reduceEq, Int.reduceToNat, reduceCtorEq] at hl
    rw [hl]
    simp -implicitDefEqProofs (disch := omega) only [go_sem, Nat.reduceBEq, Nat.reduceAdd, Nat.reduceSub, Nat.reduceMul, Nat.reduceLeDiff, Nat.reduceEqDiff, Nat.reduceLT, Int.reduceNeg, Int.reduceAdd, Int.reduceSub, Int.reduceMul, Int.reduceLE, Int.reduceLT, Int.reduceEq, Int.reduceToNat, reduceCtorEq, ht]
  · try simp -implicitDefEqProofs only [go_sem, Nat.reduceBEq, Nat.reduceAdd, Nat.reduceSub, Nat.reduceMul, Nat.reduceLeDiff, Nat.reduceEqDiff, Nat.reduceLT, Int.reduceNeg, Int.reduceAdd, Int.reduceSub, Int.reduceMul, Int.reduceLE, Int.reduceLT, Int.reduceEq, Int.reduceToNat, reduceCtorEq] at hl
    rw [hl]
    simp -implicitDefEqProofs (disch := omega) only [go_sem, Nat.reduceBEq, Nat.reduceAdd, Nat.reduceSub, Nat.reduceMul, Nat.reduceLeDiff, Nat.reduceEqDiff, Nat.reduceLT, Int.reduceNeg, Int.reduceAdd, Int.reduceSub, Int.reduceMul, Int.reduceLE, Int.reduceLT, Int.reduceEq, Int.reduceToNat, reduceCtorEq, ht]
theorem Grown.more {fs : List Fd} {id k st : Nat} {h h1 h3 : Heap} {done : List (List V)} {xs : List (List U)} {cells : List V} {x : List U} {js : List Nat} (g : Grown fs id h done xs) (own : OwnR h1 fs cells x js)
    (keep : ∀ j, j < h.length → h1[j]? = h[j]?) (hlen : h.length ≤ h1.length) (e3 : ∀ j, j < h1.length → h3[j]? = h1[j]?) (hb : h3[k]? = some (blkOf fs st (done ++ [cells]))) : ∃ ids, OwnF h3 (.sub fs) (.ref k st 0 (done ++ [cells]).length false) (.sub (xs ++ [x])) ids := by
  obtain ⟨_, ids, z, _⟩ := g.frame (h1 := h3) (fun j hj => (e3 j (by omega)).trans (keep j hj))
  refine ⟨k :: (ids ++ js), ?_⟩
  simp only [OwnF]
  exact ⟨xs ++ [x], rfl, .inr ⟨k, st, false, done ++ [cells], ids ++ js, rfl, hb, rfl, Zip3_app z (Zip3_one (OwnR_frame fs own (fun j hj => e3 j (OwnR_lt fs own j hj))))⟩⟩
-- find29
theorem clipk_Ent (d : Nat) (h : Heap) (m : Nat) (done : List (List V)) (hn : h[0]? = some (.nest m 2 done)) : callX (runD tab noExt (d + 1)) h 2 79 [.ref 0 m 0 m false] = some (.ref 0 m 0 m true, h) := by
  simp only [callX, callK]
  rw [runD_eq find79 _ _ _ (by simp)]
  simp -implicitDefEqProofs (disch := omega) only [go_sem, Nat.reduceBEq, Nat.reduceAdd, Nat.reduceSub, Nat.reduceMul, Nat.reduceLeDiff, Nat.reduceEqDiff, Nat.reduceLT, Int.reduceNeg, Int.reduceAdd, Int.reduceSub, Int.reduceMul, Int.reduceLE, Int.reduceLT, Int.reduceEq, Int.reduceToNat, reduceCtorEq, Bool.true_or, resOk, hn]
theorem loop_lfI (d : Nat) : ∀ (f : Nat) (out : List Ent) (c : Bool) (b : List UInt8) (h : Heap) (done : List (List V)), out.length + f = 13 → b.length < 1099511627776 → LimE out → logOk out = true → Grown fdEntry 0 h done (out.map entU) → ∀ K, f ≤ K →
    ∃ v h' ids, LoopK (runD tab noExt (d + 11)) (drawI (runD tab noExt (d + 11))) [0, 3] [2] L29x0 K [(0, .sl c 1 (cellsOfBytes b)), (3, .ref 0 done.length 0 done.length false)] h = some (.ret, [(2, v)], h') ∧ OwnF h' (.sub fdEntry) v (.sub ((lFrom f out b).map entU)) ids ∧ ids.Nodup
  | 0, out, c, b, h, done, hf, hb, h1, h2, g, K, hK => by
    have := log_len h2
    omega
  | f + 1, out, c, b, h, done, hf, hb, h1, h2, g, K, hK => by
    obtain ⟨K, rfl⟩ : ∃ k', K = k' + 1 := ⟨K - 1, by omega⟩
    have hl12 := log_len h2
    have glen := g.len
    rw [List.length_map] at glen
    obtain ⟨pv, hc, is0, q1, q2, q3⟩ := own_eFrom d c b hb
    obtain ⟨cells, hp, js, kE, k2, k3, k4, k5, k6⟩ := own_callAS (h := h) (args := [.sl c 1 (cellsOfBytes b)]) (by simp only [pureDAs, mapO, pureDA, pureD]) q1 (ownR_mk_Entry (a0 := (eFrom b).1.time) q2) q3 (by rcases own_cases q2 with ⟨cx, rfl⟩ | ⟨id, st, m, clip, rfl⟩ <;> rfl) rfl
    obtain ⟨a0, p1, y1, i1, rfl, hx, rfl, k2'⟩ := ownR_Entry k2
    simp only [List.cons.injEq, U.int.injEq, U.sub.injEq, and_true] at hx
    obtain ⟨rfl, rfl⟩ := hx
    have hw := own_cases k2'
    have hlt := g.lt
    have hn1 : hp[0]? = some (.nest done.length 2 done) := (k5 0 hlt).trans (g.nest (by rfl))
    have hp0 : 0 < hp.length := by omega
    have hn2 : ∀ t, (hp ++ t)[0]? = some (.nest done.length 2 done) := fun t => (List.getElem?_append_left hp0).trans hn1
    have hcl : ∀ x, callX (runD tab noExt (d + 11)) (hp ++ [x]) 2 79 [.ref 0 done.length 0 done.length false] = some (.ref 0 done.length 0 done.length true, hp ++ [x]) := fun x => clipk_Ent (d + 10) _ _ _ (hn2 _)
    have hcl2 : ∀ x y, callX (runD tab noExt (d + 11)) (hp ++ [x, y]) 2 79 [.ref 0 done.length 0 done.length false] = some (.ref 0 done.length 0 done.length true, hp ++ [x, y]) := fun x y => clipk_Ent (d + 10) _ _ _ (hn2 _)
    have keep : ∀ t j, j < h.length → (hp ++ t)[j]? = h[j]? := fun t j hj => by rw [List.getElem?_append_left (by omega), k5 j hj]
    have hsm : done.length + 1 < 4294967296 := by omega
    simp only [lFrom]
    by_cases hn : (eFrom b).2 = 0
    · have g3 : ((eFrom b).2 : Int) = 0 := by omega
      rw [if_pos hn]
      obtain ⟨ids, o1, o2⟩ := (g.frame (keep [.box [.int .i64 (eFrom b).1.time, p1]])).own (n := done.length) (clip := true) rfl
      refine ⟨_, _, ids, ?_, o1, o2⟩
      rw [LoopK_eq]
      rcases hw with ⟨c', rfl⟩ | ⟨id, st, n, clip, rfl⟩ <;> simp -implicitDefEqProofs (disch := omega) only [go_sem, Nat.reduceBEq, Nat.reduceAdd, Nat.reduceSub, Nat.reduceMul, Nat.reduceLeDiff, Nat.reduceEqDiff, Nat.reduceLT, Int.reduceNeg, Int.reduceAdd, Int.reduceSub, Int.reduceMul, Int.reduceLE, Int.reduceLT, Int.reduceEq, Int.reduceToNat, reduceCtorEq, evL29x0, B29x0, evC_draw, evD29x0, E29x0, kE, g3, hn2, hcl, at_end, set_end, List.getElem?_set_self, List.set_cons_zero]
    · have g3 : (((eFrom b).2 : Int) = 0) = False := eq_false (by omega)
      have hle := eFrom_le b
      rw [if_neg hn]
      have hlim := lim_snoc h1 hl12 (eFrom_lim b)
      have hbk : (hp ++ [Blk.box [.int .i64 (eFrom b).1.time, p1], .nest 0 2 (done ++ [[.int .i64 (eFrom b).1.time, p1]])])[hp.length + 1]? = some (blkOf fdEntry 0 (done ++ [[.int .i64 (eFrom b).1.time, p1]])) := by rw [at_end_add]; rfl
      obtain ⟨ids, o1⟩ := g.more k2 k5 k6 (fun j hj => List.getElem?_append_left hj) hbk
      obtain ⟨q, e1, e2⟩ := OwnF_pure (.sub fdEntry) 6 (by decide) o1
      have e3 := pureDA_of o1 e1
      rw [show out.map entU ++ [[U.int (eFrom b).1.time, U.sub ((eFrom b).1.ws.map wrU)]] = (out ++ [(eFrom b).1]).map entU by rw [List.map_append]; rfl] at e2
      obtain ⟨cl, l2, rfl, hl2⟩ := ents_each e2
      have hlim2 : LimE l2 := ents_lim (by rw [← hl2]; exact ents_len hlim)
      obtain ⟨_, x2, x3⟩ := hlim2.fine
      have kL := call_bool (h := hp ++ [Blk.box [.int .i64 (eFrom b).1.time, p1], .nest 0 2 (done ++ [[.int .i64 (eFrom b).1.time, p1]])]) (args := [V.ref (hp.length + 1) 0 0 (done ++ [[.int .i64 (eFrom b).1.time, p1]]).length false]) (by simp only [pureDAs, mapO, e3]) (run_logI (d + 2) cl l2 x3 x2)
      rw [← logOk_vs hl2] at kL
      simp only [List.length_append, List.length_cons, List.length_nil, Nat.zero_add] at kL
      cases ho : logOk (out ++ [(eFrom b).1])
      · rw [ho] at kL
        obtain ⟨ids, o1, o2⟩ := (g.frame (keep [.box [.int .i64 (eFrom b).1.time, p1], .nest 0 2 (done ++ [[.int .i64 (eFrom b).1.time, p1]])])).own (n := done.length) (clip := true) rfl
        simp only [Bool.false_eq_true, if_false]
        refine ⟨_, _, ids, ?_, o1, o2⟩
        rw [LoopK_eq]
        rcases hw with ⟨c', rfl⟩ | ⟨id, st, n, clip, rfl⟩ <;> simp -implicitDefEqProofs (disch := omega) only [go_sem, Nat.reduceBEq, Nat.reduceAdd, Nat.reduceSub, Nat.reduceMul, Nat.reduceLeDiff, Nat.reduceEqDiff, Nat.reduceLT, Int.reduceNeg, Int.reduceAdd, Int.reduceSub, Int.reduceMul, Int.reduceLE, Int.reduceLT, Int.reduceEq, Int.reduceToNat, reduceCtorEq, evL29x0, B29x0, evC_draw, evD29x0, E29x0, kE, kL, g3, hn2, hcl, hcl2, hsm, at_end, set_end, List.getElem?_set_self, List.set_cons_zero, elemsN, elemN, listN, appendN, okN, small]
      · rw [ho] at kL
        simp only [if_true]
        have hle' : (eFrom b).2 ≤ b.length := hle
        have htk : List.take (b.length - (eFrom b).2) (cellsOfBytes (b.drop (eFrom b).2)) = cellsOfBytes (b.drop (eFrom b).2) := List.take_of_length_le (by rw [cob_len, List.length_drop]; omega)
        have g4 : ((eFrom b).2 : Int) ≤ b.length := by omega
        have g' : Grown fdEntry 0 ((hp ++ [Blk.box [V.int .i64 (eFrom b).1.time, p1], Blk.nest 0 2 (done ++ [[V.int .i64 (eFrom b).1.time, p1]])]).set 0 (Blk.nest (done.length + 1) 2 (done ++ [[V.int .i64 (eFrom b).1.time, p1]]))) (done ++ [[V.int .i64 (eFrom b).1.time, p1]]) ((out ++ [(eFrom b).1]).map entU) := by
          rw [List.map_append]
          exact g.add (h1 := hp ++ [Blk.box [V.int .i64 (eFrom b).1.time, p1], Blk.nest 0 2 (done ++ [[V.int .i64 (eFrom b).1.time, p1]])]) (OwnR_frame fdEntry k2 (fun j hj => List.getElem?_append_left (OwnR_lt fdEntry k2 j hj))) k3 k4 (keep _) rfl
        obtain ⟨v, h', ids, r1, r2, r3⟩ := loop_lfI d f (out ++ [(eFrom b).1]) c (b.drop (eFrom b).2) _ _ (by simp; omega) (by rw [List.length_drop]; omega) hlim ho g' K (by omega)
        refine ⟨v, h', ids, ?_, r2, r3⟩
        rw [← r1, LoopK_eq]
        rcases hw with ⟨c', rfl⟩ | ⟨id, st, n, clip, rfl⟩ <;> simp -implicitDefEqProofs (disch := omega) only [go_sem, Nat.reduceBEq, Nat.reduceAdd, Nat.reduceSub, Nat.reduceMul, Nat.reduceLeDiff, Nat.reduceEqDiff, Nat.reduceLT, Int.reduceNeg, Int.reduceAdd, Int.reduceSub, Int.reduceMul, Int.reduceLE, Int.reduceLT, Int.reduceEq, Int.reduceToNat, reduceCtorEq, evL29x0, B29x0, evC_draw, evD29x0, E29x0, evC_draw, evD29x1, E29x1, kE, kL, g3, g4, hn2, hcl, hcl2, hsm, cob_len, cob_drop, htk, at_end, set_end, List.getElem?_set_self, List.set_cons_zero, elemsN, elemN, listN, appendN, okN, small]
end Go.Proofs.Yteaojpfofifmnaa.PE
/- Logs read: what both functions come to, for the exact statement. -/
set_option linter.unusedSimpArgs false
set_option linter.unusedVariables false
set_option maxHeartbeats 4000000
set_option maxRecDepth 20000
namespace Go.Proofs.Yteaojpfofifmnaa.PE
open Go.RowKit

theorem lim_nil : LimE ([] : List Ent) := ⟨by simp, fun e he => by cases he⟩
-- find29
theorem own_lFrom (d : Nat) (c : Bool) (b : List UInt8) (hb : b.length < 1099511627776) : ∃ v hc ids, runD tab noExt (d + 12) 29 [.sl c 1 (cellsOfBytes b)] [] = some ([v], hc) ∧ OwnF hc (.sub fdEntry) v (.sub ((lFrom 13 [] b).map entU)) ids ∧ ids.Nodup := by
  obtain ⟨v, h', ids, r1, r2, r3⟩ := loop_lfI d 13 [] c b [.nest 0 2 []] [] rfl hb lim_nil rfl (Grown.start rfl) 1099511627775 (by omega)
  refine ⟨v, h', ids, ?_, r2, r3⟩
  simp only [List.length_nil] at r1
  rw [runD_eq find29 _ _ _ (by simp)]
  simp -implicitDefEqProofs (disch := omega) only [go_sem, Nat.reduceBEq, Nat.reduceAdd, Nat.reduceSub, Nat.reduceMul, Nat.reduceLeDiff, Nat.reduceEqDiff, Nat.reduceLT, Int.reduceNeg, Int.reduceAdd, Int.reduceSub, Int.reduceMul, Int.reduceLE, Int.reduceLT, Int.reduceEq, Int.reduceToNat, reduceCtorEq]
  try simp -implicitDefEqProofs only [go_sem, Nat.reduceBEq, Nat.reduceAdd, Nat.reduceSub, Nat.reduceMul, Nat.reduceLeDiff, Nat.reduceEqDiff, Nat.reduceLT, Int.reduceNeg, Int.reduceAdd, Int.reduceSub, Int.reduceMul, Int.reduceLE, Int.reduceLT, Int.reduceEq, Int.reduceToNat, reduceCtorEq] at r1
  rw [r1]
  simp -implicitDefEqProofs (disch := omega) only [go_sem, Nat.reduceBEq, Nat.reduceAdd, Nat.reduceSub, Nat.reduceMul, Nat.reduceLeDiff, Nat.reduceEqDiff, Nat.reduceLT, Int.reduceNeg, Int.reduceAdd, Int.reduceSub, Int.reduceMul, Int.reduceLE, Int.reduceLT, Int.reduceEq, Int.reduceToNat, reduceCtorEq]
theorem core_LogFrom {x0 : List (List U)} (h0 : ∃ p, PurF (.sub fdByte) p (.sub x0)) (L0 : LenF 1048576 1048576 (.sub fdByte) (.sub x0)) (R0 : ∃ bs : List UInt8, x0 = bsU bs) :
    ∃ ux, LenF big big (.sub fdEntry) (.sub ux) ∧ (cntF (.sub fdEntry) (.sub ux) : Int) ≤ 2305843009213693952 ∧
      (∀ {q0 : V}, PurF (.sub fdByte) q0 (.sub x0) → ∃ w, retP (runD tab noExt 60) 33 [q0] = some [w] ∧ PurF (.sub fdEntry) w (.sub ux)) ∧
      (∀ {q0 : V}, PurF (.sub fdByte) q0 (.sub x0) → ∃ v hc ids, runD tab noExt 60 29 [q0] [] = some ([v], hc) ∧ OwnF hc (.sub fdEntry) v (.sub ux) ids ∧ ids.Nodup) := by
  obtain ⟨bs, rfl⟩ := R0
  have lb : bs.length < 1099511627776 := by
    simp only [LenF, bsU, List.length_map] at L0
    omega
  obtain ⟨lim, ok⟩ := lFrom_ok 13 [] bs lim_nil rfl
  refine ⟨(lFrom 13 [] bs).map entU, LenF_mono (n := 1048576) (m := 1048576) (by decide) (by decide) _ (ents_len lim), ents_cnt (logOk_one ok) lim.1, fun k0 => ?_, fun k0 => ?_⟩
  · obtain ⟨c, rfl⟩ := bs_each k0
    obtain ⟨cw, e⟩ := run_lFromS 51 c bs lb
    exact ⟨_, e, (pur_map ent_pur _ 2 rfl _)⟩
  · obtain ⟨c, rfl⟩ := bs_each k0
    exact own_lFrom 48 c bs lb
end Go.Proofs.Yteaojpfofifmnaa.PE
/- The exact statement of FnExactLogFrom. -/
set_option linter.unusedVariables false
set_option linter.unusedSimpArgs false
set_option maxHeartbeats 8000000
set_option maxRecDepth 20000
namespace Go.Proofs.Yteaojpfofifmnaa.PE
open Go.RowKit

-- find6
theorem law_FnExactLogFrom {p0 : V} {x0 : List (List U)} (g0 : PurF (.sub fdByte) p0 (.sub x0)) (B0 : LenF 9223372036854775807 9223372036854775807 (.sub fdByte) (.sub x0)) (R0 : ∃ bs : List UInt8, x0 = bsU bs) : ∃ d h1, runD tab noExt d 6 [p0] [] = some ([.bool true], h1) := by
  refine ⟨61, ?_⟩
  rw [runD_eq find6 _ _ _ (by simp)]
  obtain ⟨cl0, ct0, rfl, hz0⟩ := purS_Byte g0
  have hl0 := Zip2_len hz0
  by_cases q0 : (1048576 : Int) < ct0.length
  · simp -implicitDefEqProofs (disch := omega) only [go_sem, Nat.reduceBEq, Nat.reduceAdd, Nat.reduceSub, Nat.reduceMul, Nat.reduceLeDiff, Nat.reduceEqDiff, Nat.reduceLT, Int.reduceNeg, Int.reduceAdd, Int.reduceSub, Int.reduceMul, Int.reduceLE, Int.reduceLT, Int.reduceEq, Int.reduceToNat, reduceCtorEq, q0]
    exact ⟨_, rfl⟩
  have L0 : LenF 1048576 1048576 (.sub fdByte) (.sub x0) := by
    simp only [LenF]
    exact ⟨by omega, all_flat (by simp [fdByte]) _⟩
  have y0c : (cntF (.sub fdByte) (.sub x0) : Int) ≤ 16 * 1048576 := by simp only [cntF, fdByte]; have := sum_one (f := .int .u8) (fun u => by cases u <;> rfl) x0; omega
  have M0 := LenF_mono (n' := big) (m' := big) (by decide) (by decide) _ L0
  have P0 : x0.length ≤ 1048576 ∧ AllU (LenR 1048576 1048576 fdByte) x0 := by simpa only [LenF] using L0
  obtain ⟨ux, C1, C2, cS, cI⟩ := core_LogFrom ⟨_, g0⟩ L0 R0
  obtain ⟨v0, c0, d0, r0, o0, n0'⟩ := run_toByteS 59 g0 P0.1 P0.2
  obtain ⟨t0, h0, s0, e0, a0, u0, w0, f0, m0⟩ := own_call (h := ([] : Heap)) (args := [(.sl cl0 1 ct0)]) (by simp only [pureDAs, mapO, pureDA_pur g0]) r0 o0 n0'
  have b0 := own_ids a0 w0
  obtain ⟨qsw0, zsw0, ysw0⟩ := OwnF_pure (.sub fdByte) 6 (by decide) a0
  have xsw0 := pureDA_of a0 zsw0
  obtain ⟨w, eS, gw⟩ := cS ysw0
  have eW := call_specB (h := h0) (args := [t0]) (by simp only [pureDAs, mapO, pureDA_int, pureDA_bool, pureDA_str, pureDA_agg, pureD_intv, pureD_boolv, pureD_strv, Option.map_some, zsw0, xsw0]) eS
  obtain ⟨hd, hdE⟩ : ∃ hb : Heap, hb = h0.map deadB := ⟨_, rfl⟩
  have mD : hd.length = h0.length := by rw [hdE]; simp
  rw [← hdE] at eW
  try simp only [oneOf] at eW
  obtain ⟨v1, c1, d1, r1, o1, n1'⟩ := run_toByteS 59 g0 P0.1 P0.2
  obtain ⟨t1, h1, s1, e1, a1, u1, w1, f1, m1⟩ := own_call (h := hd) (args := [(.sl cl0 1 ct0)]) (by simp only [pureDAs, mapO, pureDA_pur g0]) r1 o1 n1'
  have b1 := own_ids a1 w1
  obtain ⟨qgx0, zgx0, ygx0⟩ := OwnF_pure (.sub fdByte) 6 (by decide) a1
  have xgx0 := pureDA_of a1 zgx0
  obtain ⟨v2, c2, d2, r2, o2, n2'⟩ := cI ygx0
  obtain ⟨t2, h2, s2, e2, a2, u2, w2, f2, m2⟩ := own_call (h := h1) (args := [t1]) (by simp only [pureDAs, mapO, pureDA_int, pureDA_bool, pureDA_str, pureDA_agg, pureD_intv, pureD_boolv, pureD_strv, Option.map_some, zgx0, xgx0]) r2 o2 n2'
  have b2 := own_ids a2 w2
  have o1x := OwnF_frame _ a1 (fun j hj => f2 j (OwnF_lt _ a1 j hj))
  obtain ⟨qgagR, zgagR, ygagR⟩ := OwnF_pure (.sub fdEntry) 6 (by decide) a2
  have xgagR := pureDA_of a2 zgagR
  have Ega := call_bool (h := h2) (args := [t2, w]) (by simp only [pureDAs, mapO, zgagR, xgagR, pureDA_pur gw]) (run_eqEntryS 54 ygagR gw C1)
  obtain ⟨v3, c3, d3, r3, o3, n3'⟩ := run_toByteS 59 g0 P0.1 P0.2
  obtain ⟨t3, h3, s3, e3, a3, u3, w3, f3, m3⟩ := own_call (h := h2) (args := [(.sl cl0 1 ct0)]) (by simp only [pureDAs, mapO, pureDA_pur g0]) r3 o3 n3'
  have b3 := own_ids a3 w3
  have o2x := OwnF_frame _ o1x (fun j hj => f3 j (OwnF_lt _ o1x j hj))
  have o3x := OwnF_frame _ a2 (fun j hj => f3 j (OwnF_lt _ a2 j hj))
  obtain ⟨qA0x0, zA0x0, yA0x0⟩ := OwnF_pure (.sub fdByte) 6 (by decide) o2x
  have xA0x0 := pureDA_of o2x zA0x0
  obtain ⟨qB0y0, zB0y0, yB0y0⟩ := OwnF_pure (.sub fdByte) 6 (by decide) a3
  have xB0y0 := pureDA_of a3 zB0y0
  have EA0 := call_bool (h := h3) (args := [t1, t3]) (by simp only [pureDAs, mapO, pureDA_int, pureDA_bool, pureDA_str, pureDA_agg, pureD_intv, pureD_boolv, pureD_strv, Option.map_some, zA0x0, xA0x0, zB0y0, xB0y0]) (run_eqByteS 59 yA0x0 yB0y0 M0)
  obtain ⟨h4, zmx0, e4, a4, k4, z4x, f4', m4⟩ := run_markByteS 59 o2x u1 M0 (k := (1 : Int)) (by omega) (by omega)
  have f4 : ∀ j, j < h3.length → j ∉ s1 → h4[j]? = h3[j]? := fun j _ hj => f4' j hj
  have o4x := OwnF_frame _ o3x (fun j hj => f4 j (by have z := b2 j hj; first | omega | (have := OwnF_lt _ o3x j hj; omega)) (fun hm => by have z1 := b2 j hj; have z2 := b1 j hm; omega))
  have K0 : (((1 : Int) + cntF (.sub fdByte) (.sub x0)) < 0) = False := eq_false (by omega)
  obtain ⟨qgbgR, zgbgR, ygbgR⟩ := OwnF_pure (.sub fdEntry) 6 (by decide) o4x
  have xgbgR := pureDA_of o4x zgbgR
  have Egb := call_bool (h := h4) (args := [t2, w]) (by simp only [pureDAs, mapO, zgbgR, xgbgR, pureDA_pur gw]) (run_eqEntryS 54 ygbgR gw C1)
  obtain ⟨h5, zG, e5, a5, k5, z5x, f5', m5⟩ := run_markEntryS 56 o4x u2 C1 (k := 1) (by omega) (by omega)
  have f5 : ∀ j, j < h4.length → j ∉ s2 → h5[j]? = h4[j]? := fun j _ hj => f5' j hj
  have o5x := OwnF_frame _ a4 (fun j hj => f5 j (by have z := b1 j hj; first | omega | (have := OwnF_lt _ a4 j hj; omega)) (fun hm => by have z1 := b1 j hj; have z2 := b2 j hm; omega))
  have K1 : (((1 : Int) + cntF (.sub fdEntry) (.sub ux)) < 0) = False := eq_false (by omega)
  obtain ⟨qhagR, zhagR, yhagR⟩ := OwnF_pure (.sub fdEntry) 6 (by decide) a5
  have xhagR := pureDA_of a5 zhagR
  have Eha := call_int (h := h5) (args := [t2, .int .i64 1]) (by simp only [pureDAs, mapO, pureDA_int, pureDA_bool, pureDA_str, pureDA_agg, pureD_intv, pureD_boolv, pureD_strv, Option.map_some, zhagR, xhagR]) (run_heldEntryS 56 yhagR k5 (by omega) (by omega) z5x)
  obtain ⟨v6, c6, d6, r6, o6, n6'⟩ := run_toByteS 59 g0 P0.1 P0.2
  obtain ⟨t6, h6, s6, e6, a6, u6, w6, f6, m6⟩ := own_call (h := h5) (args := [(.sl cl0 1 ct0)]) (by simp only [pureDAs, mapO, pureDA_pur g0]) r6 o6 n6'
  have b6 := own_ids a6 w6
  have o6x := OwnF_frame _ a5 (fun j hj => f6 j (OwnF_lt _ a5 j hj))
  obtain ⟨qkh0, zkh0, ykh0⟩ := OwnF_pure (.sub fdByte) 6 (by decide) a6
  have xkh0 := pureDA_of a6 zkh0
  obtain ⟨v7, c7, d7, r7, o7, n7'⟩ := cI ykh0
  obtain ⟨t7, h7, s7, e7, a7, u7, w7, f7, m7⟩ := own_call (h := h6) (args := [t6]) (by simp only [pureDAs, mapO, pureDA_int, pureDA_bool, pureDA_str, pureDA_agg, pureD_intv, pureD_boolv, pureD_strv, Option.map_some, zkh0, xkh0]) r7 o7 n7'
  have b7 := own_ids a7 w7
  have o7x := OwnF_frame _ o6x (fun j hj => f7 j (OwnF_lt _ o6x j hj))
  have o8x := OwnF_frame _ a6 (fun j hj => f7 j (OwnF_lt _ a6 j hj))
  obtain ⟨qgckR, zgckR, ygckR⟩ := OwnF_pure (.sub fdEntry) 6 (by decide) a7
  have xgckR := pureDA_of a7 zgckR
  have Egc := call_bool (h := h7) (args := [t7, w]) (by simp only [pureDAs, mapO, zgckR, xgckR, pureDA_pur gw]) (run_eqEntryS 54 ygckR gw C1)
  obtain ⟨qhbgR, zhbgR, yhbgR⟩ := OwnF_pure (.sub fdEntry) 6 (by decide) o7x
  have xhbgR := pureDA_of o7x zhbgR
  have Ehb := call_int (h := h7) (args := [t2, .int .i64 1]) (by simp only [pureDAs, mapO, pureDA_int, pureDA_bool, pureDA_str, pureDA_agg, pureD_intv, pureD_boolv, pureD_strv, Option.map_some, zhbgR, xhbgR]) (run_heldEntryS 56 yhbgR k5 (by omega) (by omega) z5x)
  simp -implicitDefEqProofs (disch := omega) only [go_sem, Nat.reduceBEq, Nat.reduceAdd, Nat.reduceSub, Nat.reduceMul, Nat.reduceLeDiff, Nat.reduceEqDiff, Nat.reduceLT, Int.reduceNeg, Int.reduceAdd, Int.reduceSub, Int.reduceMul, Int.reduceLE, Int.reduceLT, Int.reduceEq, Int.reduceToNat, reduceCtorEq, q0, K0, K1, e0, eW, e1, e2, Ega, e3, EA0, e4, Egb, e5, Eha, e6, e7, Egc, Ehb]
  exact ⟨_, rfl⟩
end Go.Proofs.Yteaojpfofifmnaa.PE
