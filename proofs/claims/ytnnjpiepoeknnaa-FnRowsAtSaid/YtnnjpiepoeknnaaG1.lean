/- Texts of this claim, one behind the other: Pu5, Pu6, Pn1, Pnr, Pq0, Png, Pnc, Pvz, Pu7, Pu8, Pvr, Pd5, Pr0. -/
import Derived.Test.YtnnjpiepoeknnaaG0
import Derived.Test.YtnnjpiepoeknnaaPeX
/- What sizes, copies, comparisons and marks do, type by type. -/
set_option linter.unusedVariables false
set_option linter.unusedSimpArgs false
set_option maxHeartbeats 4000000
namespace Go.Proofs.Ytnnjpiepoeknnaa.PE
open Go.RowKit

/-! ### Column -/
def fdColumn : List Fd := [.int .i64, .bool]
theorem purR_Column {c : List V} {x : List U} (h : PurR fdColumn c x) : ∃ (a0 : Int) (a1 : Bool), c = [.int .i64 a0, .bool a1] ∧ x = [.int a0, .bool a1] := by
  simp only [fdColumn, PurR] at h
  obtain ⟨v0, _, u0, _, rfl, rfl, g0, v1, _, u1, _, rfl, rfl, g1, rfl, rfl⟩ := h
  simp only [PurF] at g0
  obtain ⟨a0, rfl, rfl⟩ := g0
  simp only [PurF] at g1
  obtain ⟨a1, rfl, rfl⟩ := g1
  exact ⟨a0, a1, rfl, rfl⟩
theorem purR_mk_Column (a0 : Int) (a1 : Bool) : PurR fdColumn [.int .i64 a0, .bool a1] [.int a0, .bool a1] := by
  simp only [fdColumn, PurR]
  exact ⟨_, _, _, _, rfl, rfl, (by simp only [PurF]; first | exact ⟨a0, rfl, rfl⟩ | exact ⟨a0, rfl⟩ | trivial), _, _, _, _, rfl, rfl, (by simp only [PurF]; first | exact ⟨a1, rfl, rfl⟩ | exact ⟨a1, rfl⟩ | trivial), rfl, rfl⟩
theorem purS_Column {p : V} {xs : List (List U)} (hp : PurF (.sub fdColumn) p (.sub xs)) : ∃ cl cont, p = .sl cl 2 cont ∧ Zip2 (PurR fdColumn) cont xs := by
  simp only [PurF] at hp
  obtain ⟨cl, cont, xs', rfl, e, hz⟩ := hp
  injection e with e
  subst e
  exact ⟨cl, cont, rfl, hz⟩
theorem ownR_Column {h : Heap} {c : List V} {x : List U} {i : List Nat} (ho : OwnR h fdColumn c x i) : ∃ (a0 : Int) (a1 : Bool) , c = [.int .i64 a0, .bool a1] ∧ x = [.int a0, .bool a1] ∧ i = [] := by
  simp only [fdColumn, OwnR] at ho
  obtain ⟨v0, _, u0, _, i0, _, rfl, rfl, rfl, g0, v1, _, u1, _, i1, _, rfl, rfl, rfl, g1, rfl, rfl, rfl⟩ := ho
  simp only [OwnF] at g0
  obtain ⟨a0, rfl, rfl, rfl⟩ := g0
  simp only [OwnF] at g1
  obtain ⟨a1, rfl, rfl, rfl⟩ := g1
  exact ⟨a0, a1, rfl, rfl, by simp⟩
theorem ownR_mk_Column (h : Heap) (a0 : Int) (a1 : Bool) : OwnR h fdColumn [.int .i64 a0, .bool a1] [.int a0, .bool a1] [] := by
  simp only [fdColumn, OwnR]
  exact ⟨_, _, _, _, [], [], rfl, rfl, (by simp), (by simp only [OwnF]; first | exact ⟨a0, rfl, rfl, rfl⟩ | exact ⟨a0, rfl, rfl, trivial⟩ | exact ⟨a0, rfl, rfl⟩ | exact ⟨a0, rfl⟩ | trivial), _, _, _, _, [], [], rfl, rfl, (by simp), (by simp only [OwnF]; first | exact ⟨a1, rfl, rfl, rfl⟩ | exact ⟨a1, rfl, rfl, trivial⟩ | exact ⟨a1, rfl, rfl⟩ | exact ⟨a1, rfl⟩ | trivial), rfl, rfl, rfl⟩
theorem heldR_Column {x : List U} {k k' : Int} (h : HeldR fdColumn x k k') (h0 : 0 ≤ k) (h1 : k' ≤ 4611686018427387904) : x = [.int k, .bool (decide (Int.tmod (k + 1) 3 = 0))] ∧ k' = k + 2 := by
  simp only [fdColumn, HeldR] at h
  obtain ⟨u0, _, m0, rfl, g0, u1, _, m1, rfl, g1, rfl, ek⟩ := h
  simp only [HeldF] at g0
  obtain ⟨rfl, rfl⟩ := g0
  simp only [HeldF] at g1
  obtain ⟨rfl, rfl⟩ := g1
  exact ⟨by simp (disch := omega) only [IntWalk.i64_in, Int.add_assoc, Int.reduceAdd], by simp only [ek, Int.add_assoc, Int.reduceAdd]⟩
theorem heldR_mk_Column (k : Int)  (h0 : 0 ≤ k) (h1 : k + 2 ≤ 4611686018427387904) : HeldR fdColumn [.int k, .bool (decide (Int.tmod (k + 1) 3 = 0))] k (k + 2) := by
  simp only [fdColumn, HeldR]
  exact ⟨_, _, (k + 1), rfl, (by simp only [HeldF]; first | trivial | exact ⟨rfl, by omega⟩ | exact ⟨by simp (disch := omega) only [IntWalk.i64_in], by omega⟩ | (simp (disch := omega) only [IntWalk.i64_in, true_and, Int.add_assoc, Int.reduceAdd]; done) | (simp (disch := omega) only [IntWalk.i64_in, true_and, Int.add_assoc, Int.reduceAdd]; omega)), _, _, (k + 2), rfl, (by simp only [HeldF]; first | trivial | exact ⟨rfl, by omega⟩ | exact ⟨by simp (disch := omega) only [IntWalk.i64_in], by omega⟩ | (simp (disch := omega) only [IntWalk.i64_in, true_and, Int.add_assoc, Int.reduceAdd]; done) | (simp (disch := omega) only [IntWalk.i64_in, true_and, Int.add_assoc, Int.reduceAdd]; omega)), rfl, by first | rfl | simp only [Int.add_assoc, Int.reduceAdd]⟩
/-! ### Value -/
def fdValue : List Fd := [.int .i64, .int .i64, .str]
theorem purR_Value {c : List V} {x : List U} (h : PurR fdValue c x) : ∃ (a0 : Int) (a1 : Int) (a2 : ByteArray), c = [.int .i64 a0, .int .i64 a1, .str a2] ∧ x = [.int a0, .int a1, .str a2] := by
  simp only [fdValue, PurR] at h
  obtain ⟨v0, _, u0, _, rfl, rfl, g0, v1, _, u1, _, rfl, rfl, g1, v2, _, u2, _, rfl, rfl, g2, rfl, rfl⟩ := h
  simp only [PurF] at g0
  obtain ⟨a0, rfl, rfl⟩ := g0
  simp only [PurF] at g1
  obtain ⟨a1, rfl, rfl⟩ := g1
  simp only [PurF] at g2
  obtain ⟨a2, rfl, rfl⟩ := g2
  exact ⟨a0, a1, a2, rfl, rfl⟩
theorem purR_mk_Value (a0 : Int) (a1 : Int) (a2 : ByteArray) : PurR fdValue [.int .i64 a0, .int .i64 a1, .str a2] [.int a0, .int a1, .str a2] := by
  simp only [fdValue, PurR]
  exact ⟨_, _, _, _, rfl, rfl, (by simp only [PurF]; first | exact ⟨a0, rfl, rfl⟩ | exact ⟨a0, rfl⟩ | trivial), _, _, _, _, rfl, rfl, (by simp only [PurF]; first | exact ⟨a1, rfl, rfl⟩ | exact ⟨a1, rfl⟩ | trivial), _, _, _, _, rfl, rfl, (by simp only [PurF]; first | exact ⟨a2, rfl, rfl⟩ | exact ⟨a2, rfl⟩ | trivial), rfl, rfl⟩
theorem purS_Value {p : V} {xs : List (List U)} (hp : PurF (.sub fdValue) p (.sub xs)) : ∃ cl cont, p = .sl cl 3 cont ∧ Zip2 (PurR fdValue) cont xs := by
  simp only [PurF] at hp
  obtain ⟨cl, cont, xs', rfl, e, hz⟩ := hp
  injection e with e
  subst e
  exact ⟨cl, cont, rfl, hz⟩
theorem ownR_Value {h : Heap} {c : List V} {x : List U} {i : List Nat} (ho : OwnR h fdValue c x i) : ∃ (a0 : Int) (a1 : Int) (a2 : ByteArray) , c = [.int .i64 a0, .int .i64 a1, .str a2] ∧ x = [.int a0, .int a1, .str a2] ∧ i = [] := by
  simp only [fdValue, OwnR] at ho
  obtain ⟨v0, _, u0, _, i0, _, rfl, rfl, rfl, g0, v1, _, u1, _, i1, _, rfl, rfl, rfl, g1, v2, _, u2, _, i2, _, rfl, rfl, rfl, g2, rfl, rfl, rfl⟩ := ho
  simp only [OwnF] at g0
  obtain ⟨a0, rfl, rfl, rfl⟩ := g0
  simp only [OwnF] at g1
  obtain ⟨a1, rfl, rfl, rfl⟩ := g1
  simp only [OwnF] at g2
  obtain ⟨a2, rfl, rfl, rfl⟩ := g2
  exact ⟨a0, a1, a2, rfl, rfl, by simp⟩
theorem ownR_mk_Value (h : Heap) (a0 : Int) (a1 : Int) (a2 : ByteArray) : OwnR h fdValue [.int .i64 a0, .int .i64 a1, .str a2] [.int a0, .int a1, .str a2] [] := by
  simp only [fdValue, OwnR]
  exact ⟨_, _, _, _, [], [], rfl, rfl, (by simp), (by simp only [OwnF]; first | exact ⟨a0, rfl, rfl, rfl⟩ | exact ⟨a0, rfl, rfl, trivial⟩ | exact ⟨a0, rfl, rfl⟩ | exact ⟨a0, rfl⟩ | trivial), _, _, _, _, [], [], rfl, rfl, (by simp), (by simp only [OwnF]; first | exact ⟨a1, rfl, rfl, rfl⟩ | exact ⟨a1, rfl, rfl, trivial⟩ | exact ⟨a1, rfl, rfl⟩ | exact ⟨a1, rfl⟩ | trivial), _, _, _, _, [], [], rfl, rfl, (by simp), (by simp only [OwnF]; first | exact ⟨a2, rfl, rfl, rfl⟩ | exact ⟨a2, rfl, rfl, trivial⟩ | exact ⟨a2, rfl, rfl⟩ | exact ⟨a2, rfl⟩ | trivial), rfl, rfl, rfl⟩
theorem heldR_Value {x : List U} {k k' : Int} (h : HeldR fdValue x k k') (h0 : 0 ≤ k) (h1 : k' ≤ 4611686018427387904) : x = [.int k, .int (k + 1), .str (txt (k + 2))] ∧ k' = k + 3 := by
  simp only [fdValue, HeldR] at h
  obtain ⟨u0, _, m0, rfl, g0, u1, _, m1, rfl, g1, u2, _, m2, rfl, g2, rfl, ek⟩ := h
  simp only [HeldF] at g0
  obtain ⟨rfl, rfl⟩ := g0
  simp only [HeldF] at g1
  obtain ⟨rfl, rfl⟩ := g1
  simp only [HeldF] at g2
  obtain ⟨rfl, rfl⟩ := g2
  exact ⟨by simp (disch := omega) only [IntWalk.i64_in, Int.add_assoc, Int.reduceAdd], by simp only [ek, Int.add_assoc, Int.reduceAdd]⟩
theorem heldR_mk_Value (k : Int)  (h0 : 0 ≤ k) (h1 : k + 3 ≤ 4611686018427387904) : HeldR fdValue [.int k, .int (k + 1), .str (txt (k + 2))] k (k + 3) := by
  simp only [fdValue, HeldR]
  exact ⟨_, _, (k + 1), rfl, (by simp only [HeldF]; first | trivial | exact ⟨rfl, by omega⟩ | exact ⟨by simp (disch := omega) only [IntWalk.i64_in], by omega⟩ | (simp (disch := omega) only [IntWalk.i64_in, true_and, Int.add_assoc, Int.reduceAdd]; done) | (simp (disch := omega) only [IntWalk.i64_in, true_and, Int.add_assoc, Int.reduceAdd]; omega)), _, _, (k + 2), rfl, (by simp only [HeldF]; first | trivial | exact ⟨rfl, by omega⟩ | exact ⟨by simp (disch := omega) only [IntWalk.i64_in], by omega⟩ | (simp (disch := omega) only [IntWalk.i64_in, true_and, Int.add_assoc, Int.reduceAdd]; done) | (simp (disch := omega) only [IntWalk.i64_in, true_and, Int.add_assoc, Int.reduceAdd]; omega)), _, _, (k + 3), rfl, (by simp only [HeldF]; first | trivial | exact ⟨rfl, by omega⟩ | exact ⟨by simp (disch := omega) only [IntWalk.i64_in], by omega⟩ | (simp (disch := omega) only [IntWalk.i64_in, true_and, Int.add_assoc, Int.reduceAdd]; done) | (simp (disch := omega) only [IntWalk.i64_in, true_and, Int.add_assoc, Int.reduceAdd]; omega)), rfl, by first | rfl | simp only [Int.add_assoc, Int.reduceAdd]⟩
/-! ### ValueS -/
def fdValueS : List Fd := [.sub fdValue]
theorem purR_ValueS {c : List V} {x : List U} (h : PurR fdValueS c x) : ∃ (p0 : V) (y0 : List (List U)), c = [p0] ∧ x = [.sub y0] ∧ PurF (.sub fdValue) p0 (.sub y0) := by
  simp only [fdValueS, PurR] at h
  obtain ⟨v0, _, u0, _, rfl, rfl, g0, rfl, rfl⟩ := h
  have g0' := g0
  simp only [PurF] at g0'
  obtain ⟨_, _, y0, _, rfl, _⟩ := g0'
  exact ⟨v0, y0, rfl, rfl, g0⟩
theorem purR_mk_ValueS {p0 : V} {y0 : List (List U)} (g0 : PurF (.sub fdValue) p0 (.sub y0)) : PurR fdValueS [p0] [.sub y0] := by
  simp only [fdValueS, PurR]
  exact ⟨_, _, _, _, rfl, rfl, g0, rfl, rfl⟩
theorem purS_ValueS {p : V} {xs : List (List U)} (hp : PurF (.sub fdValueS) p (.sub xs)) : ∃ cl cont, p = .sl cl 1 cont ∧ Zip2 (PurR fdValueS) cont xs := by
  simp only [PurF] at hp
  obtain ⟨cl, cont, xs', rfl, e, hz⟩ := hp
  injection e with e
  subst e
  exact ⟨cl, cont, rfl, hz⟩
theorem ownR_ValueS {h : Heap} {c : List V} {x : List U} {i : List Nat} (ho : OwnR h fdValueS c x i) : ∃ (p0 : V) (y0 : List (List U)) (i0 : List Nat), c = [p0] ∧ x = [.sub y0] ∧ i = i0 ∧ OwnF h (.sub fdValue) p0 (.sub y0) i0 := by
  simp only [fdValueS, OwnR] at ho
  obtain ⟨v0, _, u0, _, i0, _, rfl, rfl, rfl, g0, rfl, rfl, rfl⟩ := ho
  have g0' := g0
  simp only [OwnF] at g0'
  obtain ⟨y0, rfl, _⟩ := g0'
  exact ⟨v0, y0, i0, rfl, rfl, by simp, g0⟩
theorem ownR_mk_ValueS {h : Heap} {p0 : V} {y0 : List (List U)} {i0 : List Nat} (g0 : OwnF h (.sub fdValue) p0 (.sub y0) i0) : OwnR h fdValueS [p0] [.sub y0] (i0) := by
  simp only [fdValueS, OwnR]
  exact ⟨_, _, _, _, i0, [], rfl, rfl, (by simp), g0, rfl, rfl, rfl⟩
theorem heldR_ValueS {x : List U} {k k' : Int} (h : HeldR fdValueS x k k') (h0 : 0 ≤ k) (h1 : k' ≤ 4611686018427387904) : ∃ (y0 : List (List U)) (m0 : Int), x = [.sub y0] ∧ HeldF (.sub fdValue) (.sub y0) k m0 ∧ k' = m0 := by
  simp only [fdValueS, HeldR] at h
  obtain ⟨u0, _, m0, rfl, g0, rfl, ek⟩ := h
  have l0 := HeldF_le _ g0
  have g0' := g0
  simp only [HeldF] at g0'
  obtain ⟨y0, rfl, _⟩ := g0'
  exact ⟨y0, m0, by simp (disch := omega) only [IntWalk.i64_in, Int.add_assoc, Int.reduceAdd], by simpa only [Int.add_assoc, Int.reduceAdd] using g0, by simp only [ek, Int.add_assoc, Int.reduceAdd]⟩
theorem heldR_mk_ValueS (k : Int) (y0 : List (List U)) (m0 : Int) (g0 : HeldF (.sub fdValue) (.sub y0) k m0) (h0 : 0 ≤ k) (h1 : m0 ≤ 4611686018427387904) : HeldR fdValueS [.sub y0] k (m0) := by
  have l0 := HeldF_le _ g0
  simp only [fdValueS, HeldR]
  exact ⟨_, _, m0, rfl, g0, rfl, by first | rfl | simp only [Int.add_assoc, Int.reduceAdd]⟩
/-! ### Version -/
def fdVersion : List Fd := [.int .i64, .int .i64, .int .i64, .sub fdValue]
theorem purR_Version {c : List V} {x : List U} (h : PurR fdVersion c x) : ∃ (a0 : Int) (a1 : Int) (a2 : Int) (p3 : V) (y3 : List (List U)), c = [.int .i64 a0, .int .i64 a1, .int .i64 a2, p3] ∧ x = [.int a0, .int a1, .int a2, .sub y3] ∧ PurF (.sub fdValue) p3 (.sub y3) := by
  simp only [fdVersion, PurR] at h
  obtain ⟨v0, _, u0, _, rfl, rfl, g0, v1, _, u1, _, rfl, rfl, g1, v2, _, u2, _, rfl, rfl, g2, v3, _, u3, _, rfl, rfl, g3, rfl, rfl⟩ := h
  simp only [PurF] at g0
  obtain ⟨a0, rfl, rfl⟩ := g0
  simp only [PurF] at g1
  obtain ⟨a1, rfl, rfl⟩ := g1
  simp only [PurF] at g2
  obtain ⟨a2, rfl, rfl⟩ := g2
  have g3' := g3
  simp only [PurF] at g3'
  obtain ⟨_, _, y3, _, rfl, _⟩ := g3'
  exact ⟨a0, a1, a2, v3, y3, rfl, rfl, g3⟩
theorem purR_mk_Version {a0 : Int} {a1 : Int} {a2 : Int} {p3 : V} {y3 : List (List U)} (g3 : PurF (.sub fdValue) p3 (.sub y3)) : PurR fdVersion [.int .i64 a0, .int .i64 a1, .int .i64 a2, p3] [.int a0, .int a1, .int a2, .sub y3] := by
  simp only [fdVersion, PurR]
  exact ⟨_, _, _, _, rfl, rfl, (by simp only [PurF]; first | exact ⟨a0, rfl, rfl⟩ | exact ⟨a0, rfl⟩ | trivial), _, _, _, _, rfl, rfl, (by simp only [PurF]; first | exact ⟨a1, rfl, rfl⟩ | exact ⟨a1, rfl⟩ | trivial), _, _, _, _, rfl, rfl, (by simp only [PurF]; first | exact ⟨a2, rfl, rfl⟩ | exact ⟨a2, rfl⟩ | trivial), _, _, _, _, rfl, rfl, g3, rfl, rfl⟩
theorem purS_Version {p : V} {xs : List (List U)} (hp : PurF (.sub fdVersion) p (.sub xs)) : ∃ cl cont, p = .sl cl 4 cont ∧ Zip2 (PurR fdVersion) cont xs := by
  simp only [PurF] at hp
  obtain ⟨cl, cont, xs', rfl, e, hz⟩ := hp
  injection e with e
  subst e
  exact ⟨cl, cont, rfl, hz⟩
theorem ownR_Version {h : Heap} {c : List V} {x : List U} {i : List Nat} (ho : OwnR h fdVersion c x i) : ∃ (a0 : Int) (a1 : Int) (a2 : Int) (p3 : V) (y3 : List (List U)) (i3 : List Nat), c = [.int .i64 a0, .int .i64 a1, .int .i64 a2, p3] ∧ x = [.int a0, .int a1, .int a2, .sub y3] ∧ i = i3 ∧ OwnF h (.sub fdValue) p3 (.sub y3) i3 := by
  simp only [fdVersion, OwnR] at ho
  obtain ⟨v0, _, u0, _, i0, _, rfl, rfl, rfl, g0, v1, _, u1, _, i1, _, rfl, rfl, rfl, g1, v2, _, u2, _, i2, _, rfl, rfl, rfl, g2, v3, _, u3, _, i3, _, rfl, rfl, rfl, g3, rfl, rfl, rfl⟩ := ho
  simp only [OwnF] at g0
  obtain ⟨a0, rfl, rfl, rfl⟩ := g0
  simp only [OwnF] at g1
  obtain ⟨a1, rfl, rfl, rfl⟩ := g1
  simp only [OwnF] at g2
  obtain ⟨a2, rfl, rfl, rfl⟩ := g2
  have g3' := g3
  simp only [OwnF] at g3'
  obtain ⟨y3, rfl, _⟩ := g3'
  exact ⟨a0, a1, a2, v3, y3, i3, rfl, rfl, by simp, g3⟩
theorem ownR_mk_Version {h : Heap} {a0 : Int} {a1 : Int} {a2 : Int} {p3 : V} {y3 : List (List U)} {i3 : List Nat} (g3 : OwnF h (.sub fdValue) p3 (.sub y3) i3) : OwnR h fdVersion [.int .i64 a0, .int .i64 a1, .int .i64 a2, p3] [.int a0, .int a1, .int a2, .sub y3] (i3) := by
  simp only [fdVersion, OwnR]
  exact ⟨_, _, _, _, [], i3, rfl, rfl, (by simp), (by simp only [OwnF]; first | exact ⟨a0, rfl, rfl, rfl⟩ | exact ⟨a0, rfl, rfl, trivial⟩ | exact ⟨a0, rfl, rfl⟩ | exact ⟨a0, rfl⟩ | trivial), _, _, _, _, [], i3, rfl, rfl, (by simp), (by simp only [OwnF]; first | exact ⟨a1, rfl, rfl, rfl⟩ | exact ⟨a1, rfl, rfl, trivial⟩ | exact ⟨a1, rfl, rfl⟩ | exact ⟨a1, rfl⟩ | trivial), _, _, _, _, [], i3, rfl, rfl, (by simp), (by simp only [OwnF]; first | exact ⟨a2, rfl, rfl, rfl⟩ | exact ⟨a2, rfl, rfl, trivial⟩ | exact ⟨a2, rfl, rfl⟩ | exact ⟨a2, rfl⟩ | trivial), _, _, _, _, i3, [], rfl, rfl, (by simp), g3, rfl, rfl, rfl⟩
theorem heldR_Version {x : List U} {k k' : Int} (h : HeldR fdVersion x k k') (h0 : 0 ≤ k) (h1 : k' ≤ 4611686018427387904) : ∃ (y3 : List (List U)) (m3 : Int), x = [.int k, .int (k + 1), .int (k + 2), .sub y3] ∧ HeldF (.sub fdValue) (.sub y3) (k + 3) m3 ∧ k' = m3 := by
  simp only [fdVersion, HeldR] at h
  obtain ⟨u0, _, m0, rfl, g0, u1, _, m1, rfl, g1, u2, _, m2, rfl, g2, u3, _, m3, rfl, g3, rfl, ek⟩ := h
  simp only [HeldF] at g0
  obtain ⟨rfl, rfl⟩ := g0
  simp only [HeldF] at g1
  obtain ⟨rfl, rfl⟩ := g1
  simp only [HeldF] at g2
  obtain ⟨rfl, rfl⟩ := g2
  have l3 := HeldF_le _ g3
  have g3' := g3
  simp only [HeldF] at g3'
  obtain ⟨y3, rfl, _⟩ := g3'
  exact ⟨y3, m3, by simp (disch := omega) only [IntWalk.i64_in, Int.add_assoc, Int.reduceAdd], by simpa only [Int.add_assoc, Int.reduceAdd] using g3, by simp only [ek, Int.add_assoc, Int.reduceAdd]⟩
theorem heldR_mk_Version (k : Int) (y3 : List (List U)) (m3 : Int) (g3 : HeldF (.sub fdValue) (.sub y3) (k + 3) m3) (h0 : 0 ≤ k) (h1 : m3 ≤ 4611686018427387904) : HeldR fdVersion [.int k, .int (k + 1), .int (k + 2), .sub y3] k (m3) := by
  have l3 := HeldF_le _ g3
  simp only [fdVersion, HeldR]
  exact ⟨_, _, (k + 1), rfl, (by simp only [HeldF]; first | trivial | exact ⟨rfl, by omega⟩ | exact ⟨by simp (disch := omega) only [IntWalk.i64_in], by omega⟩ | (simp (disch := omega) only [IntWalk.i64_in, true_and, Int.add_assoc, Int.reduceAdd]; done) | (simp (disch := omega) only [IntWalk.i64_in, true_and, Int.add_assoc, Int.reduceAdd]; omega)), _, _, (k + 2), rfl, (by simp only [HeldF]; first | trivial | exact ⟨rfl, by omega⟩ | exact ⟨by simp (disch := omega) only [IntWalk.i64_in], by omega⟩ | (simp (disch := omega) only [IntWalk.i64_in, true_and, Int.add_assoc, Int.reduceAdd]; done) | (simp (disch := omega) only [IntWalk.i64_in, true_and, Int.add_assoc, Int.reduceAdd]; omega)), _, _, (k + 3), rfl, (by simp only [HeldF]; first | trivial | exact ⟨rfl, by omega⟩ | exact ⟨by simp (disch := omega) only [IntWalk.i64_in], by omega⟩ | (simp (disch := omega) only [IntWalk.i64_in, true_and, Int.add_assoc, Int.reduceAdd]; done) | (simp (disch := omega) only [IntWalk.i64_in, true_and, Int.add_assoc, Int.reduceAdd]; omega)), _, _, m3, rfl, g3, rfl, by first | rfl | simp only [Int.add_assoc, Int.reduceAdd]⟩
/-! ### Table -/
def fdTable : List Fd := [.sub fdColumn, .sub fdValueS]
theorem purR_Table {c : List V} {x : List U} (h : PurR fdTable c x) : ∃ (p0 : V) (y0 : List (List U)) (p1 : V) (y1 : List (List U)), c = [p0, p1] ∧ x = [.sub y0, .sub y1] ∧ PurF (.sub fdColumn) p0 (.sub y0) ∧ PurF (.sub fdValueS) p1 (.sub y1) := by
  simp only [fdTable, PurR] at h
  obtain ⟨v0, _, u0, _, rfl, rfl, g0, v1, _, u1, _, rfl, rfl, g1, rfl, rfl⟩ := h
  have g0' := g0
  simp only [PurF] at g0'
  obtain ⟨_, _, y0, _, rfl, _⟩ := g0'
  have g1' := g1
  simp only [PurF] at g1'
  obtain ⟨_, _, y1, _, rfl, _⟩ := g1'
  exact ⟨v0, y0, v1, y1, rfl, rfl, g0, g1⟩
theorem purR_mk_Table {p0 : V} {y0 : List (List U)} {p1 : V} {y1 : List (List U)} (g0 : PurF (.sub fdColumn) p0 (.sub y0)) (g1 : PurF (.sub fdValueS) p1 (.sub y1)) : PurR fdTable [p0, p1] [.sub y0, .sub y1] := by
  simp only [fdTable, PurR]
  exact ⟨_, _, _, _, rfl, rfl, g0, _, _, _, _, rfl, rfl, g1, rfl, rfl⟩
theorem purS_Table {p : V} {xs : List (List U)} (hp : PurF (.sub fdTable) p (.sub xs)) : ∃ cl cont, p = .sl cl 2 cont ∧ Zip2 (PurR fdTable) cont xs := by
  simp only [PurF] at hp
  obtain ⟨cl, cont, xs', rfl, e, hz⟩ := hp
  injection e with e
  subst e
  exact ⟨cl, cont, rfl, hz⟩
theorem ownR_Table {h : Heap} {c : List V} {x : List U} {i : List Nat} (ho : OwnR h fdTable c x i) : ∃ (p0 : V) (y0 : List (List U)) (p1 : V) (y1 : List (List U)) (i0 : List Nat) (i1 : List Nat), c = [p0, p1] ∧ x = [.sub y0, .sub y1] ∧ i = i0 ++ i1 ∧ OwnF h (.sub fdColumn) p0 (.sub y0) i0 ∧ OwnF h (.sub fdValueS) p1 (.sub y1) i1 := by
  simp only [fdTable, OwnR] at ho
  obtain ⟨v0, _, u0, _, i0, _, rfl, rfl, rfl, g0, v1, _, u1, _, i1, _, rfl, rfl, rfl, g1, rfl, rfl, rfl⟩ := ho
  have g0' := g0
  simp only [OwnF] at g0'
  obtain ⟨y0, rfl, _⟩ := g0'
  have g1' := g1
  simp only [OwnF] at g1'
  obtain ⟨y1, rfl, _⟩ := g1'
  exact ⟨v0, y0, v1, y1, i0, i1, rfl, rfl, by simp, g0, g1⟩
theorem ownR_mk_Table {h : Heap} {p0 : V} {y0 : List (List U)} {p1 : V} {y1 : List (List U)} {i0 : List Nat} {i1 : List Nat} (g0 : OwnF h (.sub fdColumn) p0 (.sub y0) i0) (g1 : OwnF h (.sub fdValueS) p1 (.sub y1) i1) : OwnR h fdTable [p0, p1] [.sub y0, .sub y1] (i0 ++ i1) := by
  simp only [fdTable, OwnR]
  exact ⟨_, _, _, _, i0, i1, rfl, rfl, (by simp), g0, _, _, _, _, i1, [], rfl, rfl, (by simp), g1, rfl, rfl, rfl⟩
theorem heldR_Table {x : List U} {k k' : Int} (h : HeldR fdTable x k k') (h0 : 0 ≤ k) (h1 : k' ≤ 4611686018427387904) : ∃ (y0 : List (List U)) (m0 : Int) (y1 : List (List U)) (m1 : Int), x = [.sub y0, .sub y1] ∧ HeldF (.sub fdColumn) (.sub y0) k m0 ∧ HeldF (.sub fdValueS) (.sub y1) m0 m1 ∧ k' = m1 := by
  simp only [fdTable, HeldR] at h
  obtain ⟨u0, _, m0, rfl, g0, u1, _, m1, rfl, g1, rfl, ek⟩ := h
  have l0 := HeldF_le _ g0
  have g0' := g0
  simp only [HeldF] at g0'
  obtain ⟨y0, rfl, _⟩ := g0'
  have l1 := HeldF_le _ g1
  have g1' := g1
  simp only [HeldF] at g1'
  obtain ⟨y1, rfl, _⟩ := g1'
  exact ⟨y0, m0, y1, m1, by simp (disch := omega) only [IntWalk.i64_in, Int.add_assoc, Int.reduceAdd], by simpa only [Int.add_assoc, Int.reduceAdd] using g0, by simpa only [Int.add_assoc, Int.reduceAdd] using g1, by simp only [ek, Int.add_assoc, Int.reduceAdd]⟩
theorem heldR_mk_Table (k : Int) (y0 : List (List U)) (m0 : Int) (y1 : List (List U)) (m1 : Int) (g0 : HeldF (.sub fdColumn) (.sub y0) k m0) (g1 : HeldF (.sub fdValueS) (.sub y1) m0 m1) (h0 : 0 ≤ k) (h1 : m1 ≤ 4611686018427387904) : HeldR fdTable [.sub y0, .sub y1] k (m1) := by
  have l0 := HeldF_le _ g0
  have l1 := HeldF_le _ g1
  simp only [fdTable, HeldR]
  exact ⟨_, _, m0, rfl, g0, _, _, m1, rfl, g1, rfl, by first | rfl | simp only [Int.add_assoc, Int.reduceAdd]⟩
end Go.Proofs.Ytnnjpiepoeknnaa.PE
/- Steps of an exact statement. -/
set_option linter.unusedVariables false
set_option linter.unusedSimpArgs false
namespace Go.Proofs.Ytnnjpiepoeknnaa.PE
open Go.RowKit

theorem pureDA_own {h : Heap} {fs : List Fd} {v : V} {u : U} {ids : List Nat} (ho : OwnF h (.sub fs) v u ids) (hd : dep (.sub fs) ≤ 6) : ∃ q, pureDA h v = some q ∧ PurF (.sub fs) q u := by
  obtain ⟨q, e, g⟩ := OwnF_pure (.sub fs) 6 hd ho
  refine ⟨q, ?_, g⟩
  rcases own_cases ho with ⟨c, rfl⟩ | ⟨id, st, n, clip, rfl⟩ <;> exact e
theorem pureDA_int (h : Heap) (k : IntKind) (n : Int) : pureDA h (.int k n) = some (.int k n) := rfl
theorem pureDA_bool (h : Heap) (b : Bool) : pureDA h (.bool b) = some (.bool b) := rfl
theorem pureDA_str (h : Heap) (b : ByteArray) : pureDA h (.str b) = some (.str b) := rfl
theorem retP_some {run : Run} {f : Nat} {args rs : List V} (h : retP run f args = some rs) : ∃ r hc, run f args [] = some (r, hc) ∧ pureRs hc r = some rs := by
  unfold retP PureR at h
  rcases hr : run f args [] with _ | ⟨r, hc⟩
  · rw [hr] at h; cases h
  · rw [hr] at h; exact ⟨r, hc, rfl, h⟩
theorem call_spec {run : Run} {h : Heap} {f : Nat} {args args' rs : List V} (hp : pureDAs h args = some args') (hr : retP run f args' = some rs) : ∃ h', callX run h 1 f args = some (oneOf rs, h') := by
  obtain ⟨r, hc, e1, e2⟩ := retP_some hr
  exact ⟨List.replicate h.length .dead, by simp only [callX, callD, hp, e1, e2]⟩
theorem pureD_bool {h : Heap} {n : Nat} {v : V} {b : Bool} (hp : pureD h n v = some (.bool b)) : v = .bool b := by
  cases v with
  | bool c => cases n <;> simp [pureD] at hp <;> rw [hp]
  | ref id st off len clip =>
    cases n with
    | zero => simp [pureD] at hp
    | succ n =>
      simp only [pureD] at hp
      split at hp
      · split at hp <;> cases hp
      · split at hp <;> cases hp
      · split at hp
        · obtain ⟨_, _, e⟩ := Option.map_eq_some_iff.1 hp; cases e
        · cases hp
      · cases hp
  | _ => cases n <;> simp [pureD] at hp
theorem pureD_int {h : Heap} {n : Nat} {v : V} {k : IntKind} {b : Int} (hp : pureD h n v = some (.int k b)) : v = .int k b := by
  cases v with
  | int c m => cases n <;> simp [pureD] at hp <;> obtain ⟨rfl, rfl⟩ := hp <;> rfl
  | ref id st off len clip =>
    cases n with
    | zero => simp [pureD] at hp
    | succ n =>
      simp only [pureD] at hp
      split at hp
      · split at hp <;> cases hp
      · split at hp <;> cases hp
      · split at hp
        · obtain ⟨_, _, e⟩ := Option.map_eq_some_iff.1 hp; cases e
        · cases hp
      · cases hp
  | _ => cases n <;> simp [pureD] at hp
theorem pureC_D {h : Heap} {v x : V} (hv : pureC h v = some x) : pureD h 1 v = some x := by
  cases v with
  | ref id st off len clip =>
    simp only [pureC] at hv
    simp only [pureD]
    split at hv
    · rename_i hb; rw [hb]; exact hv
    · rename_i hb; rw [hb]; exact hv
    · cases hv
  | _ => first | exact hv | (simp [pureC] at hv)
theorem pureA_C {h : Heap} {v x : V} (hv : pureA h v = some x) (hx : ∀ cs, x ≠ .agg cs) : pureC h v = some x := by
  unfold pureA at hv
  split at hv
  · obtain ⟨cs, _, e⟩ := Option.map_eq_some_iff.1 hv; exact absurd e.symm (hx cs)
  · exact hv
theorem pureRs_scal {h : Heap} {r : List V} {x : V} (hx : (∃ b, x = .bool b) ∨ ∃ k n, x = .int k n) (hp : pureRs h r = some [x]) : r = [x] := by
  have key : ∀ v, pureA h v = some x → v = x := by
    intro v hv
    have := pureC_D (pureA_C hv (by rintro cs rfl; rcases hx with ⟨b, e⟩ | ⟨k, n, e⟩ <;> cases e))
    rcases hx with ⟨b, rfl⟩ | ⟨k, n, rfl⟩
    · exact pureD_bool this
    · exact pureD_int this
  have key2 : ∀ v, pureDA h v = some x → v = x := by
    intro v hv
    unfold pureDA at hv
    split at hv
    · obtain ⟨_, _, e⟩ := Option.map_eq_some_iff.1 hv
      rcases hx with ⟨b, rfl⟩ | ⟨k, n, rfl⟩ <;> cases e
    · rcases hx with ⟨b, rfl⟩ | ⟨k, n, rfl⟩
      · exact pureD_bool hv
      · exact pureD_int hv
  unfold pureRs OrD at hp
  split at hp
  · rename_i r' hr
    injection hp with hp
    subst hp
    obtain ⟨a1, a2⟩ := pureAs_spec hr
    obtain ⟨v, hv, e⟩ := a2 0 x rfl
    match r, a1, hv with
    | [v'], _, hv => simp at hv; subst hv; rw [key _ e]
  · obtain ⟨a1, a2⟩ := pureDAs_spec hp
    obtain ⟨v, hv, e⟩ := a2 0 x rfl
    match r, a1, hv with
    | [v'], _, hv => simp at hv; subst hv; rw [key2 _ e]
theorem call_bool {run : Run} {h : Heap} {f : Nat} {args args' : List V} {b : Bool} (hp : pureDAs h args = some args') (hr : retP run f args' = some [.bool b]) : callX run h 0 f args = some (.bool b, h) := by
  obtain ⟨r, hc, e1, e2⟩ := retP_some hr
  have := pureRs_scal (.inl ⟨b, rfl⟩) e2
  subst this
  simp only [callX, callO, hp, e1]
  rfl
theorem call_int {run : Run} {h : Heap} {f : Nat} {args args' : List V} {k : IntKind} {b : Int} (hp : pureDAs h args = some args') (hr : retP run f args' = some [.int k b]) : callX run h 0 f args = some (.int k b, h) := by
  obtain ⟨r, hc, e1, e2⟩ := retP_some hr
  have := pureRs_scal (.inr ⟨k, b, rfl⟩) e2
  subst this
  simp only [callX, callO, hp, e1]
  rfl
theorem pureD_str {h : Heap} {n : Nat} {v : V} {b : ByteArray} (hp : pureD h n v = some (.str b)) : v = .str b := by
  cases v with
  | str c => cases n <;> simp [pureD] at hp <;> rw [hp]
  | ref id st off len clip =>
    cases n with
    | zero => simp [pureD] at hp
    | succ n =>
      simp only [pureD] at hp
      split at hp
      · split at hp <;> cases hp
      · split at hp <;> cases hp
      · split at hp
        · obtain ⟨_, _, e⟩ := Option.map_eq_some_iff.1 hp; cases e
        · cases hp
      · cases hp
  | _ => cases n <;> simp [pureD] at hp
theorem pureD_agg {h : Heap} {n : Nat} {v : V} {b : List V} (hp : pureD h n v = some (.agg b)) : False := by
  cases v with
  | ref id st off len clip =>
    cases n with
    | zero => simp [pureD] at hp
    | succ n =>
      simp only [pureD] at hp
      split at hp
      · split at hp <;> cases hp
      · split at hp <;> cases hp
      · split at hp
        · obtain ⟨_, _, e⟩ := Option.map_eq_some_iff.1 hp; cases e
        · cases hp
      · cases hp
  | _ => cases n <;> simp [pureD] at hp
theorem pureD_scal {h : Heap} {n : Nat} {v x : V} (hx : scalar x = true) (hp : pureD h n v = some x) : v = x := by
  cases x with
  | int k b => exact pureD_int hp
  | bool b => exact pureD_bool hp
  | str b => exact pureD_str hp
  | _ => cases hx
theorem mapO_scal {h : Heap} {n : Nat} : ∀ {vs cs : List V}, mapO (pureD h n) vs = some cs → cs.all scalar = true → vs = cs
  | [], cs, e, _ => by simp only [mapO, Option.some.injEq] at e; exact e
  | v :: vs, cs, e, ha => by
    simp only [mapO] at e
    split at e
    · rename_i a b h1 h2
      injection e with e
      subst e
      simp only [List.all_cons, Bool.and_eq_true] at ha
      rw [pureD_scal ha.1 h1, mapO_scal h2 ha.2]
    · cases e
theorem pures_scal {h : Heap} : ∀ {vs cs : List V}, pures h vs = some cs → cs.all scalar = true → vs = cs
  | [], cs, e, _ => by simp only [pures, Option.some.injEq] at e; exact e
  | v :: vs, cs, e, ha => by
    simp only [pures] at e
    split at e
    · rename_i a b h1 h2
      injection e with e
      subst e
      simp only [List.all_cons, Bool.and_eq_true] at ha
      rw [pureD_scal ha.1 (pureC_D h1), pures_scal h2 ha.2]
    · cases e
theorem pureRs_agg {h : Heap} {r : List V} {cs : List V} (hc : cs.all scalar = true) (hp : pureRs h r = some [.agg cs]) : r = [.agg cs] := by
  have key : ∀ v, pureA h v = some (.agg cs) → v = .agg cs := by
    intro v hv
    unfold pureA at hv
    split at hv
    · obtain ⟨a, ha, e⟩ := Option.map_eq_some_iff.1 hv
      injection e with e
      subst e
      rw [pures_scal ha hc]
    · exact (pureD_agg (pureC_D hv)).elim
  have key2 : ∀ v, pureDA h v = some (.agg cs) → v = .agg cs := by
    intro v hv
    unfold pureDA at hv
    split at hv
    · obtain ⟨a, ha, e⟩ := Option.map_eq_some_iff.1 hv
      injection e with e
      subst e
      rw [mapO_scal ha hc]
    · exact (pureD_agg hv).elim
  unfold pureRs OrD at hp
  split at hp
  · rename_i r' hr
    injection hp with hp
    subst hp
    obtain ⟨a1, a2⟩ := pureAs_spec hr
    obtain ⟨v, hv, e⟩ := a2 0 (.agg cs) rfl
    match r, a1, hv with
    | [v'], _, hv => simp at hv; subst hv; rw [key _ e]
  · obtain ⟨a1, a2⟩ := pureDAs_spec hp
    obtain ⟨v, hv, e⟩ := a2 0 (.agg cs) rfl
    match r, a1, hv with
    | [v'], _, hv => simp at hv; subst hv; rw [key2 _ e]
theorem call_agg {run : Run} {h : Heap} {f : Nat} {args args' : List V} {cs : List V} (hc : cs.all scalar = true) (hp : pureDAs h args = some args') (hr : retP run f args' = some [.agg cs]) : callX run h 0 f args = some (.agg cs, h) := by
  obtain ⟨r, hc', e1, e2⟩ := retP_some hr
  have := pureRs_agg hc e2
  subst this
  have ha : [V.agg cs].all scalarA = true := by simp only [List.all_cons, List.all_nil, scalarA, hc, Bool.and_true]
  simp only [callX, callO, hp, e1, BackO, ha, if_true, oneOf]
theorem own_ids {h h' : Heap} {fs : List Fd} {v : V} {u : U} {ids : List Nat} (ho : OwnF h' (.sub fs) v u ids) (hl : ∀ j ∈ ids, h.length ≤ j) : ∀ j ∈ ids, h.length ≤ j ∧ j < h'.length := fun j hj => ⟨hl j hj, OwnF_lt _ ho j hj⟩
end Go.Proofs.Ytnnjpiepoeknnaa.PE
/- Contents of trees as columns, values, rows, numbers. -/
set_option linter.unusedVariables false
set_option linter.unusedSimpArgs false
namespace Go.Proofs.Ytnnjpiepoeknnaa.PE
open Go.RowKit

def colU (c : Col) : List U := [.int c.kind, .bool c.empty]
def valU (v : Val) : List U := [.int v.kind, .int v.n, .str v.s]
def vsU (vs : List Val) : List U := [.sub (vs.map valU)]
theorem typ_of {α : Type} {R : List V → List U → Prop} {f : α → List V} {g : α → List U} (h : ∀ c x, R c x → ∃ a, c = f a ∧ x = g a) : ∀ {l1 : List (List V)} {l2 : List (List U)}, Zip2 R l1 l2 → ∃ ls : List α, l1 = ls.map f ∧ l2 = ls.map g
  | [], [], _ => ⟨[], rfl, rfl⟩
  | c :: l1, x :: l2, ⟨h1, h2⟩ => by
    obtain ⟨a, rfl, rfl⟩ := h c x h1
    obtain ⟨ls, rfl, rfl⟩ := typ_of h h2
    exact ⟨a :: ls, rfl, rfl⟩
  | [], _ :: _, h => h.elim
  | _ :: _, [], h => h.elim
theorem zip_map {α : Type} {R : List V → List U → Prop} {f : α → List V} {g : α → List U} (h : ∀ a, R (f a) (g a)) : ∀ (ls : List α), Zip2 R (ls.map f) (ls.map g)
  | [] => trivial
  | a :: ls => ⟨h a, zip_map h ls⟩
theorem pur_map {α : Type} {fs : List Fd} {f : α → List V} {g : α → List U} (h : ∀ a, PurR fs (f a) (g a)) (c : Bool) (n : Nat) (hn : n = fs.length) (ls : List α) : PurF (.sub fs) (.sl c n (ls.map f)) (.sub (ls.map g)) := by
  subst hn
  simp only [PurF]
  exact ⟨c, _, _, rfl, rfl, zip_map h ls⟩
theorem sum_le {c : List U → Nat} {n : Nat} (h : ∀ x, c x ≤ n) : ∀ (xs : List (List U)), sumU c xs ≤ n * xs.length
  | [] => by simp [sumU]
  | x :: xs => by
    have := sum_le h xs
    have := h x
    simp only [sumU, List.length_cons, Nat.mul_add, Nat.mul_one]
    omega
theorem sum_one {f : Fd} (hf : ∀ u, cntF f u = 1) (xs : List (List U)) : sumU (cntR [f]) xs ≤ xs.length := by
  have := sum_le (c := cntR [f]) (n := 1) (fun x => by cases x <;> simp [cntR, hf]) xs
  omega
theorem all_flat {n m : Nat} {fs : List Fd} (hf : ∀ f ∈ fs, f = .bool ∨ ∃ k, f = .int k) : ∀ (xs : List (List U)), AllU (LenR n m fs) xs
  | [] => trivial
  | x :: xs => ⟨by
    have key : ∀ (fs : List Fd), (∀ f ∈ fs, f = .bool ∨ ∃ k, f = .int k) → ∀ x, LenR n m fs x := by
      intro fs
      induction fs with
      | nil => intro _ x; simp [LenR]
      | cons f fs ih =>
        intro hf x
        cases x with
        | nil => simp [LenR]
        | cons u x =>
          simp only [LenR]
          refine ⟨?_, ih (fun g hg => hf g (List.mem_cons_of_mem _ hg)) x⟩
          rcases hf f List.mem_cons_self with rfl | ⟨k, rfl⟩ <;> simp [LenF]
    exact key fs hf x, all_flat hf xs⟩

theorem colsU_of {l1 : List (List V)} {l2 : List (List U)} (h : Zip2 (PurR fdColumn) l1 l2) : ∃ cs : List Col, l1 = cs.map Col.cells ∧ l2 = cs.map colU :=
  typ_of (fun c x hr => by obtain ⟨a, b, rfl, rfl⟩ := purR_Column hr; exact ⟨⟨a, b⟩, rfl, rfl⟩) h
theorem valsU_of {l1 : List (List V)} {l2 : List (List U)} (h : Zip2 (PurR fdValue) l1 l2) : ∃ vs : List Val, l1 = vs.map Val.cells ∧ l2 = vs.map valU :=
  typ_of (fun c x hr => by obtain ⟨a, b, s, rfl, rfl⟩ := purR_Value hr; exact ⟨⟨a, b, s⟩, rfl, rfl⟩) h
theorem rowsU_of {l1 : List (List V)} {l2 : List (List U)} (h : Zip2 (PurR fdValueS) l1 l2) : ∃ rs : List Row, l1 = rs.map Row.cells ∧ l2 = rs.map (fun r => vsU r.vs) :=
  typ_of (fun c x hr => by
    obtain ⟨p, y, rfl, rfl, g⟩ := purR_ValueS hr
    obtain ⟨cl, ct, rfl, hz⟩ := purS_Value g
    obtain ⟨vs, rfl, rfl⟩ := valsU_of hz
    exact ⟨⟨cl, vs⟩, rfl, rfl⟩) h
theorem colU_inj {a b : Col} (h : colU a = colU b) : a = b := by
  cases a; cases b
  simp only [colU, List.cons.injEq, U.int.injEq, U.bool.injEq, and_true] at h
  obtain ⟨rfl, rfl⟩ := h
  rfl
theorem valU_inj {a b : Val} (h : valU a = valU b) : a = b := by
  cases a; cases b
  simp only [valU, List.cons.injEq, U.int.injEq, U.str.injEq, and_true] at h
  obtain ⟨rfl, rfl, rfl⟩ := h
  rfl
theorem map_inj {α β : Type} {g : α → β} (hg : ∀ a b, g a = g b → a = b) {l1 l2 : List α} (h : l1.map g = l2.map g) : l1 = l2 := (List.map_inj_right hg).1 h
theorem vsU_inj {a b : List Val} (h : vsU a = vsU b) : a = b := by
  simp only [vsU, List.cons.injEq, U.sub.injEq, and_true] at h
  exact map_inj (fun _ _ => valU_inj) h
theorem col_pur (c : Col) : PurR fdColumn c.cells (colU c) := purR_mk_Column c.kind c.empty
theorem val_pur (v : Val) : PurR fdValue v.cells (valU v) := purR_mk_Value v.kind v.n v.s
theorem row_pur (r : Row) : PurR fdValueS r.cells (vsU r.vs) := purR_mk_ValueS (pur_map val_pur _ 3 rfl _)
/-- Values of one's own. -/
theorem own_flat {α : Type} {fs : List Fd} {f : α → List V} {g : α → List U} {h : Heap} (ho : ∀ a, OwnR h fs (f a) (g a) []) : ∀ (ls : List α), Zip3 (OwnR h fs) (ls.map f) (ls.map g) []
  | [] => rfl
  | a :: ls => ⟨[], [], rfl, ho a, own_flat ho ls⟩
theorem own_row {α : Type} {fs : List Fd} {f : α → List V} {g : α → List U} {h : Heap} {id st n : Nat} {clip : Bool} (hd : fs.any Fd.deep = false) (ls : List α) (hn : n = ls.length) (hb : h[id]? = some (.rows st fs.length (ls.map f))) (ho : ∀ a, OwnR h fs (f a) (g a) []) : OwnF h (.sub fs) (.ref id st 0 n clip) (.sub (ls.map g)) [id] := by
  simp only [OwnF]
  refine ⟨_, rfl, .inr ⟨id, st, clip, ls.map f, [], by rw [hn, List.length_map], ?_, rfl, own_flat ho ls⟩⟩
  rw [hb]
  unfold blkOf
  rw [hd]
  rfl
theorem own_nil {fs : List Fd} {h : Heap} {c : Bool} {n : Nat} (hn : n = fs.length) : OwnF h (.sub fs) (.sl c n []) (.sub []) [] := by
  subst hn
  rw [OwnF]
  exact ⟨[], rfl, .inl ⟨c, rfl, rfl, rfl⟩⟩
end Go.Proofs.Ytnnjpiepoeknnaa.PE
/- Rows and columns as trees: what their sizes say, that only their values matter. -/
set_option linter.unusedVariables false
set_option linter.unusedSimpArgs false
set_option maxHeartbeats 4000000
namespace Go.Proofs.Ytnnjpiepoeknnaa.PE
open Go.RowKit

def rowU (r : Row) : List U := vsU r.vs
theorem AllU_sub {α : Type} {P : List U → Prop} {g : α → List U} : ∀ {l : List α}, AllU P (l.map g) → ∀ {l2 : List α}, (∀ x ∈ l2, x ∈ l) → AllU P (l2.map g)
  | l, h, [], _ => trivial
  | l, h, x :: r, hs => by
    refine ⟨?_, AllU_sub h (fun y hy => hs y (List.mem_cons_of_mem _ hy))⟩
    obtain ⟨i, hi⟩ := List.getElem?_of_mem (hs x List.mem_cons_self)
    exact AllU_at h (map_at g hi)
theorem sum_leP {P : List U → Prop} {c : List U → Nat} {n : Nat} (h : ∀ x, P x → c x ≤ n) : ∀ {xs : List (List U)}, AllU P xs → sumU c xs ≤ n * xs.length
  | [], _ => by simp [sumU]
  | x :: xs, ⟨h1, h2⟩ => by
    have := sum_leP h h2
    have := h x h1
    simp only [sumU, List.length_cons, Nat.mul_add, Nat.mul_one]
    omega
theorem cnt_vsU (vs : List Val) : cntR fdValueS (vsU vs) ≤ 4 + 3 * vs.length := by
  have : sumU (cntR fdValue) (vs.map valU) ≤ 3 * (vs.map valU).length := by
    induction vs with
    | nil => simp [sumU]
    | cons p ls ih =>
      have e : cntR fdValue (valU p) = 3 := rfl
      simp only [List.map_cons, sumU, e, List.length_cons]
      omega
  rw [List.length_map] at this
  simp only [vsU, fdValueS, cntR, cntF]
  omega
/-- What a size says of rows. -/
theorem rows_lim {rs : List Row} (L : LenF 1048576 1048576 (.sub fdValueS) (.sub (rs.map rowU))) : Fine rs ∧ Short rs ∧ (∀ r ∈ rs, r.vs.length ≤ 1048576) ∧ rs.length ≤ 1048576 := by
  simp only [LenF, List.length_map] at L
  have key : ∀ r ∈ rs, r.vs.length ≤ 1048576 ∧ AllU (LenR 1048576 1048576 fdValue) (r.vs.map valU) := by
    intro r hr
    obtain ⟨i, hi⟩ := List.getElem?_of_mem hr
    have := AllU_at L.2 (map_at rowU hi)
    simp only [fdValueS, rowU, vsU, LenR, LenF, List.length_map, and_true] at this
    exact this
  refine ⟨⟨by omega, fun r hr => by have := (key r hr).1; omega⟩, fun r hr => ⟨by have := (key r hr).1; omega, fun v hv => ?_⟩, fun r hr => (key r hr).1, L.1⟩
  obtain ⟨i, hi⟩ := List.getElem?_of_mem hv
  have := AllU_at (key r hr).2 (map_at valU hi)
  simp only [fdValue, valU, LenR, LenF, true_and, and_true] at this
  omega
theorem rows_res {rs : List Row} (L : LenF 1048576 1048576 (.sub fdValueS) (.sub (rs.map rowU))) {l2 : List Row} (hn : l2.length ≤ rs.length) (hs : ∀ x ∈ l2, x ∈ rs) : LenF big big (.sub fdValueS) (.sub (l2.map rowU)) ∧ (cntF (.sub fdValueS) (.sub (l2.map rowU)) : Int) ≤ 2305843009213693952 := by
  obtain ⟨-, -, k1, k2⟩ := rows_lim L
  have L2 : LenF 1048576 1048576 (.sub fdValueS) (.sub (l2.map rowU)) := by
    simp only [LenF, List.length_map] at L ⊢
    exact ⟨by omega, AllU_sub L.2 hs⟩
  refine ⟨LenF_mono (by decide) (by decide) _ L2, ?_⟩
  have : AllU (fun x => cntR fdValueS x ≤ 4194304) (l2.map rowU) := by
    have : ∀ l : List Row, (∀ x ∈ l, x ∈ rs) → AllU (fun x => cntR fdValueS x ≤ 4194304) (l.map rowU) := by
      intro l
      induction l with
      | nil => intro _; trivial
      | cons r l ih =>
        intro h
        refine ⟨?_, ih (fun x hx => h x (List.mem_cons_of_mem _ hx))⟩
        have := k1 r (h r List.mem_cons_self)
        have := cnt_vsU r.vs
        unfold rowU
        omega
    exact this l2 hs
  have := sum_leP (fun x h => h) this
  rw [List.length_map] at this
  simp only [cntF]
  omega
theorem rows_each {rs : List Row} {q : V} (k : PurF (.sub fdValueS) q (.sub (rs.map rowU))) : ∃ (c : Bool) (rs2 : List Row), q = .sl c 1 (rs2.map Row.cells) ∧ rs2.map rowU = rs.map rowU := by
  obtain ⟨c, _, rfl, y0⟩ := purS_ValueS k
  obtain ⟨rs', rfl, e0⟩ := rowsU_of y0
  exact ⟨c, rs', rfl, e0.symm⟩
theorem vss_of {a b : List Row} (h : a.map rowU = b.map rowU) : a.map Row.vs = b.map Row.vs := by
  have : (a.map Row.vs).map vsU = (b.map Row.vs).map vsU := by rw [List.map_map, List.map_map]; exact h
  exact map_inj (fun _ _ => vsU_inj) this
theorem all_vs {P : List Val → Bool} : ∀ {a b : List Row}, a.map Row.vs = b.map Row.vs → (a.all fun r => P r.vs) = (b.all fun r => P r.vs)
  | [], [], _ => rfl
  | x :: a, y :: b, h => by
    simp only [List.map_cons, List.cons.injEq] at h
    rw [List.all_cons, List.all_cons, h.1, all_vs h.2]
  | [], _ :: _, h => by simp at h
  | _ :: _, [], h => by simp at h
theorem rowsOk_vs {cs : List Col} {a b : List Row} (h : a.map Row.vs = b.map Row.vs) : rowsOk cs a = rowsOk cs b := by
  unfold rowsOk rowsFit
  rw [all_vs h]
theorem cols_each {cs : List Col} {q : V} (k : PurF (.sub fdColumn) q (.sub (cs.map colU))) : ∃ c, q = .sl c 2 (cs.map Col.cells) := by
  obtain ⟨c, _, rfl, y0⟩ := purS_Column k
  obtain ⟨cs', rfl, e0⟩ := colsU_of y0
  obtain rfl := map_inj (fun _ _ => colU_inj) e0
  exact ⟨c, rfl⟩
theorem lim_of {a b : List Row} (e : a.map rowU = b.map rowU) (L : LenF 1048576 1048576 (.sub fdValueS) (.sub (b.map rowU))) : Fine a ∧ Short a := by
  rw [← e] at L
  obtain ⟨h1, h2, _⟩ := rows_lim L
  exact ⟨h1, h2⟩
end Go.Proofs.Ytnnjpiepoeknnaa.PE
/- Copies of rows, and whether lists of rows are the same. -/
set_option linter.unusedSimpArgs false
set_option linter.unusedVariables false
set_option maxHeartbeats 4000000
namespace Go.Proofs.Ytnnjpiepoeknnaa.PE
open Go.RowKit

theorem clipkVal (d : Nat) (l : List (List V)) (n : Nat) (hn : n = l.length) : callX (runD tab noExt (d + 1)) [.rows 0 3 l] 2 169 [.ref 0 0 0 n false] = some (.ref 0 0 0 n true, [.rows 0 3 l]) := by
  subst hn
  simp only [callX, callK]
  rw [runD_eq find169 _ _ _ (by simp)]
  simp -implicitDefEqProofs (disch := omega) only [go_sem, Nat.reduceBEq, Nat.reduceAdd, Nat.reduceSub, Nat.reduceMul, Nat.reduceLeDiff, Nat.reduceEqDiff, Nat.reduceLT, Int.reduceNeg, Int.reduceAdd, Int.reduceSub, Int.reduceMul, Int.reduceLE, Int.reduceLT, Int.reduceEq, Int.reduceToNat, reduceCtorEq, List.take_length, Bool.true_or, resOk]
theorem runcVal (d : Nat) (c : Bool) (l : List (List V)) (h0 : 0 < l.length) (hl : l.length < 4294967296) : runD tab noExt (d + 2) 112 [.sl c 3 l] [] = some ([.ref 0 0 0 l.length true], [.rows 0 3 l]) := by
  rw [runD_eq find112 _ _ _ (by simp)]
  match l, h0, hl with
  | [], h0, _ => exact absurd h0 (by decide)
  | x :: r, _, hl =>
    have h0 : ((r.length : Int) + 1 = 0) = False := eq_false (by omega)
    have h1 : r.length + 1 < 4294967296 := by simpa using hl
    have hc := clipkVal d (x :: r) (r.length + 1) (by simp)
    simp -implicitDefEqProofs (disch := omega) only [go_sem, Nat.reduceBEq, Nat.reduceAdd, Nat.reduceSub, Nat.reduceMul, Nat.reduceLeDiff, Nat.reduceEqDiff, Nat.reduceLT, Int.reduceNeg, Int.reduceAdd, Int.reduceSub, Int.reduceMul, Int.reduceLE, Int.reduceLT, Int.reduceEq, Int.reduceToNat, reduceCtorEq, List.length_cons, h0, h1, hc]
theorem runnVal (d : Nat) (c : Bool) : runD tab noExt (d + 2) 112 [.sl c 3 []] [] = some ([.sl true 3 []], []) := by
  rw [runD_eq find112 _ _ _ (by simp)]
  simp -implicitDefEqProofs (disch := omega) only [go_sem, Nat.reduceBEq, Nat.reduceAdd, Nat.reduceSub, Nat.reduceMul, Nat.reduceLeDiff, Nat.reduceEqDiff, Nat.reduceLT, Int.reduceNeg, Int.reduceAdd, Int.reduceSub, Int.reduceMul, Int.reduceLE, Int.reduceLT, Int.reduceEq, Int.reduceToNat, reduceCtorEq]
theorem cloneVal (d : Nat) (c : Bool) (l : List (List V)) (hl : l.length < 4294967296) : retP (runD tab noExt (d + 2)) 112 [.sl c 3 l] = some [.sl true 3 l] := by
  match l, hl with
  | [], _ => rw [retP, runnVal]; rfl
  | x :: r, hl =>
    rw [retP, runcVal d c (x :: r) (by simp) hl]
    simp -implicitDefEqProofs only [go_sem, Nat.reduceBEq, Nat.reduceAdd, Nat.reduceSub, Nat.reduceMul, Nat.reduceLeDiff, Nat.reduceEqDiff, Nat.reduceLT, Int.reduceNeg, Int.reduceAdd, Int.reduceSub, Int.reduceMul, Int.reduceLE, Int.reduceLT, Int.reduceEq, Int.reduceToNat, reduceCtorEq, List.take_length]
theorem clonexVal (d : Nat) (h : Heap) (c : Bool) (l : List (List V)) (h0 : 0 < l.length) (hl : l.length < 4294967296) (hf : l.all (fun x => x.all freshC) = true) : callX (runD tab noExt (d + 2)) h 0 112 [.sl c 3 l] = some (.ref h.length 0 0 l.length true, h ++ [.rows 0 3 l]) := by
  simp only [callX, callO, pureDAs, mapO, pureDA, pureD, deepest, runcVal d c l h0 hl, BackO, List.all_cons, List.all_nil, scalarA, scalar, freshA, freshC, Bool.false_eq_true, Bool.false_and, Bool.and_self, if_false, if_true, List.map_cons, List.map_nil, oneOf, shA, shC, Nat.zero_add, movedH, clean, hf, shB]
theorem clonenVal (d : Nat) (h : Heap) (c : Bool) : callX (runD tab noExt (d + 2)) h 0 112 [.sl c 3 []] = some (.sl true 3 [], h) := by
  simp only [callX, callO, pureDAs, mapO, pureDA, pureD, deepest, runnVal d c, BackO, List.all_cons, List.all_nil, scalarA, scalar, freshA, freshC, isNil, Bool.false_eq_true, Bool.false_and, Bool.and_self, if_false, if_true, List.map_cons, List.map_nil, oneOf, shA, shC, movedH, List.append_nil]

/-- A row of one's own. -/
def Row.own (b : Bool) (r : Row) : Row := ⟨b, r.vs⟩
def own (b : Bool) (rs : List Row) : List Row := rs.map (Row.own b)
theorem foldl_snoc {α β : Type} (g : α → β) : ∀ (l : List α) (b : List β), l.foldl (fun b x => b ++ [g x]) b = b ++ l.map g
  | [], b => by simp
  | x :: r, b => by simp [foldl_snoc g r]
theorem lt_small {n m : Nat} {i : Nat} (h1 : n ≤ i) (h2 : (i : Int) < m) (h3 : m < 4294967296) : n + 1 < 4294967296 := by omega
def sameVs (a b : List Val) : Bool := decide (a = b)
theorem loop_sameRow (d : Nat) (c c' : Bool) (a b : List Val) (hs : a.length < 1099511627776) (hlen : a.length = b.length) (K : Nat) (hK : (a.zip b).length ≤ K) : LoopS (runD tab noExt d) (drawI (runD tab noExt d)) [0, 1, 5] [4] L110x0 ([] : Heap).length K [(0, .sl c 3 (a.map Val.cells)), (1, .sl c' 3 (b.map Val.cells)), (5, .int .i64 0)] [] = if (a.zip b).all (fun p => decide (p.1 = p.2)) then (some (.exit 0, [(4, .undef)], []) : Out) else (some (.ret, [(4, .bool false)], []) : Out) := by
  have key := LoopS_all (run := (runD tab noExt d)) (draw := drawI (runD tab noExt d)) (live := [0, 1, 5]) (out := [4]) (c := L110x0) (n0 := ([] : Heap).length) (a.zip b) (fun p => decide (p.1 = p.2)) (fun (i : Nat) => [(0, .sl c 3 (a.map Val.cells)), (1, .sl c' 3 (b.map Val.cells)), (5, .int .i64 i)]) [] (some (.exit 0, [(4, .undef)], []) : Out) (some (.ret, [(4, .bool false)], []) : Out) (fun K => ?_) (fun (i : Nat) (x : Val × Val) K hi hx => ?_) K hK
  · simp only [Int.natCast_zero] at key
    exact key
  · rw [LoopS_eq]
    simp -implicitDefEqProofs only [go_sem, Nat.reduceBEq, Nat.reduceAdd, Nat.reduceSub, Nat.reduceMul, Nat.reduceLeDiff, Nat.reduceEqDiff, Nat.reduceLT, Int.reduceNeg, Int.reduceAdd, Int.reduceSub, Int.reduceMul, Int.reduceLE, Int.reduceLT, Int.reduceEq, Int.reduceToNat, reduceCtorEq, evL110x0, B110x0, Int.lt_irrefl, List.length_zip, hlen, Nat.min_self, evC_draw, evD110x0, E110x0, Val.cells]
  · obtain ⟨g1, g2⟩ := List.getElem?_zip_eq_some.1 hx; rw [List.length_zip, hlen, Nat.min_self] at hi; obtain ⟨⟨k1, n1, s1⟩, ⟨k2, n2, s2⟩⟩ := x
    rw [LoopS_eq]
    simp -implicitDefEqProofs (disch := omega) only [go_sem, Nat.reduceBEq, Nat.reduceAdd, Nat.reduceSub, Nat.reduceMul, Nat.reduceLeDiff, Nat.reduceEqDiff, Nat.reduceLT, Int.reduceNeg, Int.reduceAdd, Int.reduceSub, Int.reduceMul, Int.reduceLE, Int.reduceLT, Int.reduceEq, Int.reduceToNat, reduceCtorEq, evL110x0, B110x0, hi, hx, IntWalk.i64_in, List.length_zip, hlen, Nat.min_self, evC_draw, evD110x0, E110x0, Val.cells, *]
    repeat' ((first | rw [GuardI_ndec] | rw [CondC_ndec] | rw [GuardQ_ndec] | rw [GuardI_dec] | rw [CondC_dec] | rw [GuardQ_dec] | rw [GuardI_nby] | rw [CondC_nby] | rw [GuardQ_nby] | rw [GuardQ_by] | rw [GuardI_by] | rw [CondC_by]) <;> split <;> simp -implicitDefEqProofs (disch := omega) only [go_sem, Nat.reduceBEq, Nat.reduceAdd, Nat.reduceSub, Nat.reduceMul, Nat.reduceLeDiff, Nat.reduceEqDiff, Nat.reduceLT, Int.reduceNeg, Int.reduceAdd, Int.reduceSub, Int.reduceMul, Int.reduceLE, Int.reduceLT, Int.reduceEq, Int.reduceToNat, reduceCtorEq, hi, hx, IntWalk.i64_in, List.length_zip, hlen, Nat.min_self, evC_draw, evD110x0, E110x0, Val.cells, *, *])
    all_goals first | rfl | (simp_all [Val.mk.injEq]; done) | (simp_all [Val.mk.injEq]; omega)
theorem zip_same {α : Type} [DecidableEq α] : ∀ (a b : List α), a.length = b.length → ((a.zip b).all fun p => decide (p.1 = p.2)) = decide (a = b)
  | [], [], _ => by simp
  | x :: a, y :: b, h => by
    have := zip_same a b (by simpa using h)
    simp only [List.zip_cons_cons, List.all_cons, this]
    by_cases h1 : x = y <;> by_cases h2 : a = b <;> simp [h1, h2]
  | [], _ :: _, h => by simp at h
  | _ :: _, [], h => by simp at h
-- find110
theorem run_sameRow (d : Nat) (c c' : Bool) (a b : List Val) (hs : a.length < 1099511627776) : retP (runD tab noExt (d + 1)) 110 [.sl c 3 (a.map Val.cells), .sl c' 3 (b.map Val.cells)] = some [.bool (decide (a = b))] := by
  rw [retP, runD_eq find110 _ _ _ (by simp)]
  by_cases hlen : a.length = b.length
  · have hl := loop_sameRow d c c' a b hs hlen 1099511627775 (by simp; omega)
    simp -implicitDefEqProofs only [go_sem, Nat.reduceBEq, Nat.reduceAdd, Nat.reduceSub, Nat.reduceMul, Nat.reduceLeDiff, Nat.reduceEqDiff, Nat.reduceLT, Int.reduceNeg, Int.reduceAdd, Int.reduceSub, Int.reduceMul, Int.reduceLE, Int.reduceLT, Int.reduceEq, Int.reduceToNat, reduceCtorEq, hlen] at hl ⊢
    rw [hl, zip_same a b hlen]
    by_cases h : a = b <;> simp -implicitDefEqProofs only [go_sem, Nat.reduceBEq, Nat.reduceAdd, Nat.reduceSub, Nat.reduceMul, Nat.reduceLeDiff, Nat.reduceEqDiff, Nat.reduceLT, Int.reduceNeg, Int.reduceAdd, Int.reduceSub, Int.reduceMul, Int.reduceLE, Int.reduceLT, Int.reduceEq, Int.reduceToNat, reduceCtorEq, h]
  · have h1 : ((a.length : Int) = b.length) = False := eq_false (by omega)
    have h2 : ¬ a = b := fun e => hlen (by rw [e])
    simp -implicitDefEqProofs only [go_sem, Nat.reduceBEq, Nat.reduceAdd, Nat.reduceSub, Nat.reduceMul, Nat.reduceLeDiff, Nat.reduceEqDiff, Nat.reduceLT, Int.reduceNeg, Int.reduceAdd, Int.reduceSub, Int.reduceMul, Int.reduceLE, Int.reduceLT, Int.reduceEq, Int.reduceToNat, reduceCtorEq, h1, h2]
def vss (rs : List Row) : List (List Val) := rs.map Row.vs
theorem loop_sameRows (d : Nat) (c c' : Bool) (a b : List Row) (hs : a.length < 1099511627776) (hsa : ∀ r ∈ a, r.vs.length < 1099511627776) (hlen : a.length = b.length) (K : Nat) (hK : (a.zip b).length ≤ K) : LoopS (runD tab noExt (d + 1)) (drawI (runD tab noExt (d + 1))) [0, 1, 5] [4] L43x0 ([] : Heap).length K [(0, .sl c 1 (a.map Row.cells)), (1, .sl c' 1 (b.map Row.cells)), (5, .int .i64 0)] [] = if (a.zip b).all (fun p => decide (p.1.vs = p.2.vs)) then (some (.exit 0, [(4, .undef)], []) : Out) else (some (.ret, [(4, .bool false)], []) : Out) := by
  have key := LoopS_all (run := (runD tab noExt (d + 1))) (draw := drawI (runD tab noExt (d + 1))) (live := [0, 1, 5]) (out := [4]) (c := L43x0) (n0 := ([] : Heap).length) (a.zip b) (fun p => decide (p.1.vs = p.2.vs)) (fun (i : Nat) => [(0, .sl c 1 (a.map Row.cells)), (1, .sl c' 1 (b.map Row.cells)), (5, .int .i64 i)]) [] (some (.exit 0, [(4, .undef)], []) : Out) (some (.ret, [(4, .bool false)], []) : Out) (fun K => ?_) (fun (i : Nat) (x : Row × Row) K hi hx => ?_) K hK
  · simp only [Int.natCast_zero] at key
    exact key
  · rw [LoopS_eq]
    simp -implicitDefEqProofs only [go_sem, Nat.reduceBEq, Nat.reduceAdd, Nat.reduceSub, Nat.reduceMul, Nat.reduceLeDiff, Nat.reduceEqDiff, Nat.reduceLT, Int.reduceNeg, Int.reduceAdd, Int.reduceSub, Int.reduceMul, Int.reduceLE, Int.reduceLT, Int.reduceEq, Int.reduceToNat, reduceCtorEq, evL43x0, B43x0, Int.lt_irrefl, List.length_zip, hlen, Nat.min_self, evC_draw, evD43x0, E43x0, Row.cells, Row.v]
  · obtain ⟨g1, g2⟩ := List.getElem?_zip_eq_some.1 hx; rw [List.length_zip, hlen, Nat.min_self] at hi; have hss := run_sameRow d x.1.clip x.2.clip x.1.vs x.2.vs (hsa _ (List.mem_of_getElem? g1))
    rw [LoopS_eq]
    simp -implicitDefEqProofs (disch := omega) only [go_sem, Nat.reduceBEq, Nat.reduceAdd, Nat.reduceSub, Nat.reduceMul, Nat.reduceLeDiff, Nat.reduceEqDiff, Nat.reduceLT, Int.reduceNeg, Int.reduceAdd, Int.reduceSub, Int.reduceMul, Int.reduceLE, Int.reduceLT, Int.reduceEq, Int.reduceToNat, reduceCtorEq, evL43x0, B43x0, hi, hx, IntWalk.i64_in, List.length_zip, hlen, Nat.min_self, evC_draw, evD43x0, E43x0, Row.cells, Row.v, *]
    repeat' ((first | rw [GuardI_ndec] | rw [CondC_ndec] | rw [GuardQ_ndec] | rw [GuardI_dec] | rw [CondC_dec] | rw [GuardQ_dec] | rw [GuardI_nby] | rw [CondC_nby] | rw [GuardQ_nby] | rw [GuardQ_by] | rw [GuardI_by] | rw [CondC_by]) <;> split <;> simp -implicitDefEqProofs (disch := omega) only [go_sem, Nat.reduceBEq, Nat.reduceAdd, Nat.reduceSub, Nat.reduceMul, Nat.reduceLeDiff, Nat.reduceEqDiff, Nat.reduceLT, Int.reduceNeg, Int.reduceAdd, Int.reduceSub, Int.reduceMul, Int.reduceLE, Int.reduceLT, Int.reduceEq, Int.reduceToNat, reduceCtorEq, hi, hx, IntWalk.i64_in, List.length_zip, hlen, Nat.min_self, evC_draw, evD43x0, E43x0, Row.cells, Row.v, *, *])
    all_goals first | rfl | (simp_all []; done) | (simp_all []; omega)
theorem zip_sames : ∀ (a b : List Row), a.length = b.length → ((a.zip b).all fun p => decide (p.1.vs = p.2.vs)) = decide (vss a = vss b)
  | [], [], _ => by simp
  | x :: a, y :: b, h => by
    have := zip_sames a b (by simpa using h)
    simp only [vss] at this
    simp only [List.zip_cons_cons, List.all_cons, this, vss, List.map_cons]
    by_cases h1 : x.vs = y.vs <;> by_cases h2 : a.map Row.vs = b.map Row.vs <;> simp [h1, h2]
  | [], _ :: _, h => by simp at h
  | _ :: _, [], h => by simp at h
-- find43
theorem run_sameRows (d : Nat) (c c' : Bool) (a b : List Row) (hs : a.length < 1099511627776) (hsa : ∀ r ∈ a, r.vs.length < 1099511627776) : retP (runD tab noExt (d + 2)) 43 [.sl c 1 (a.map Row.cells), .sl c' 1 (b.map Row.cells)] = some [.bool (decide (vss a = vss b))] := by
  rw [retP, runD_eq find43 _ _ _ (by simp)]
  by_cases hlen : a.length = b.length
  · have hl := loop_sameRows d c c' a b hs hsa hlen 1099511627775 (by simp; omega)
    simp -implicitDefEqProofs only [go_sem, Nat.reduceBEq, Nat.reduceAdd, Nat.reduceSub, Nat.reduceMul, Nat.reduceLeDiff, Nat.reduceEqDiff, Nat.reduceLT, Int.reduceNeg, Int.reduceAdd, Int.reduceSub, Int.reduceMul, Int.reduceLE, Int.reduceLT, Int.reduceEq, Int.reduceToNat, reduceCtorEq, hlen] at hl ⊢
    rw [hl, zip_sames a b hlen]
    by_cases h : vss a = vss b <;> simp -implicitDefEqProofs only [go_sem, Nat.reduceBEq, Nat.reduceAdd, Nat.reduceSub, Nat.reduceMul, Nat.reduceLeDiff, Nat.reduceEqDiff, Nat.reduceLT, Int.reduceNeg, Int.reduceAdd, Int.reduceSub, Int.reduceMul, Int.reduceLE, Int.reduceLT, Int.reduceEq, Int.reduceToNat, reduceCtorEq, h]
  · have h1 : ((a.length : Int) = b.length) = False := eq_false (by omega)
    have h2 : ¬ vss a = vss b := fun e => hlen (by have := congrArg List.length e; simpa [vss] using this)
    simp -implicitDefEqProofs only [go_sem, Nat.reduceBEq, Nat.reduceAdd, Nat.reduceSub, Nat.reduceMul, Nat.reduceLeDiff, Nat.reduceEqDiff, Nat.reduceLT, Int.reduceNeg, Int.reduceAdd, Int.reduceSub, Int.reduceMul, Int.reduceLE, Int.reduceLT, Int.reduceEq, Int.reduceToNat, reduceCtorEq, h1, h2]
end Go.Proofs.Ytnnjpiepoeknnaa.PE
/- Rows of rows that grow, element by element, each of memory of its own. -/
set_option linter.unusedVariables false
set_option linter.unusedSimpArgs false
namespace Go.Proofs.Ytnnjpiepoeknnaa.PE
open Go.RowKit

/-- What has been gathered up to now. -/
def Grown (fs : List Fd) (id : Nat) (h : Heap) (done : List (List V)) (xs : List (List U)) : Prop :=
  h[id]? = some (blkOf fs done.length done) ∧ ∃ ids, Zip3 (OwnR h fs) done xs ids ∧ (id :: ids).Nodup
theorem Grown.nest {fs : List Fd} {id : Nat} {h : Heap} {done : List (List V)} {xs : List (List U)} (g : Grown fs id h done xs) (hd : fs.any Fd.deep = true) : h[id]? = some (.nest done.length fs.length done) := by
  have := g.1
  unfold blkOf at this
  rw [hd] at this
  exact this
theorem Grown.len {fs : List Fd} {id : Nat} {h : Heap} {done : List (List V)} {xs : List (List U)} (g : Grown fs id h done xs) : done.length = xs.length := by
  obtain ⟨_, ids, z, _⟩ := g
  exact Zip3_len z
theorem Grown.lt {fs : List Fd} {id : Nat} {h : Heap} {done : List (List V)} {xs : List (List U)} (g : Grown fs id h done xs) : id < h.length := (List.getElem?_eq_some_iff.1 g.1).1
theorem Grown.start {fs : List Fd} {id : Nat} {h : Heap} (hb : h[id]? = some (blkOf fs 0 [])) : Grown fs id h [] [] := ⟨hb, [], rfl, by simp⟩
theorem Grown.frame {fs : List Fd} {id : Nat} {h h1 : Heap} {done : List (List V)} {xs : List (List U)} (g : Grown fs id h done xs) (keep : ∀ j, j < h.length → h1[j]? = h[j]?) : Grown fs id h1 done xs := by
  obtain ⟨g1, ids, z, nd⟩ := g
  refine ⟨(keep id (List.getElem?_eq_some_iff.1 g1).1).trans g1, ids, ?_, nd⟩
  exact Zip3_mono (P := fun _ => True) (fun c x i hr _ => OwnR_frame _ hr (fun j hj => keep j (OwnR_lt _ hr j hj))) z (fun _ _ => trivial)
theorem Grown.add {fs : List Fd} {id : Nat} {h h1 h2 : Heap} {done : List (List V)} {xs : List (List U)} {cells : List V} {x : List U} {js : List Nat} (g : Grown fs id h done xs) (own : OwnR h1 fs cells x js) (nd : js.Nodup)
    (fresh : ∀ j ∈ js, h.length ≤ j) (keep : ∀ j, j < h.length → h1[j]? = h[j]?) (e2 : h2 = h1.set id (blkOf fs (done.length + 1) (done ++ [cells]))) : Grown fs id h2 (done ++ [cells]) (xs ++ [x]) := by
  subst e2
  have hlt := g.lt
  obtain ⟨g1, ids, z, nd1⟩ := g
  have hl1 : id < h1.length := by
    have := keep id hlt
    rw [List.getElem?_eq_getElem hlt] at this
    exact (List.getElem?_eq_some_iff.1 this).1
  obtain ⟨n1, n2⟩ := List.nodup_cons.1 nd1
  have hids : ∀ j ∈ ids, j < h.length := Zip3_all (fun c x i hr => OwnR_lt fs hr) z
  refine ⟨by rw [List.getElem?_set_self hl1, List.length_append]; rfl, ids ++ js, Zip3_app (Zip3_mono (P := fun j => j ∈ ids) (fun c x i hr hp => OwnR_frame fs hr (fun j hj => ?_)) z (fun _ hm => hm)) (Zip3_one (OwnR_frame fs own (fun j hj => ?_))), ?_⟩
  · have hne : id ≠ j := fun e => n1 (e ▸ hp j hj)
    rw [List.getElem?_set_ne hne]
    exact keep j (hids j (hp j hj))
  · have hne : id ≠ j := fun e => by have := fresh j hj; omega
    rw [List.getElem?_set_ne hne]
  · refine List.nodup_cons.2 ⟨fun hm => ?_, List.nodup_append.2 ⟨n2, nd, fun p hp q hq => ?_⟩⟩
    · rcases List.mem_append.1 hm with hm | hm
      · exact n1 hm
      · have := fresh id hm; omega
    · have := hids p hp
      have := fresh q hq
      omega
theorem Grown.set {fs : List Fd} {id : Nat} {h h1 : Heap} {done : List (List V)} {xs : List (List U)} {k : Nat} {b : Blk} (g : Grown fs id h done xs) (hk : h.length ≤ k) : Grown fs id (h.set k b) done xs := by
  rw [List.set_eq_of_length_le hk]
  exact g
theorem Grown.own {fs : List Fd} {id : Nat} {h : Heap} {done : List (List V)} {xs : List (List U)} {n : Nat} {clip : Bool} (g : Grown fs id h done xs) (hn : n = done.length) : ∃ ids, OwnF h (.sub fs) (.ref id n 0 n clip) (.sub xs) ids ∧ ids.Nodup := by
  subst hn
  obtain ⟨g1, ids, z, nd⟩ := g
  refine ⟨id :: ids, ?_, nd⟩
  simp only [OwnF]
  exact ⟨xs, rfl, .inr ⟨id, done.length, clip, done, ids, rfl, g1, rfl, z⟩⟩
end Go.Proofs.Ytnnjpiepoeknnaa.PE
/- Copies of rows as memory of one's own. -/
set_option linter.unusedVariables false
set_option linter.unusedSimpArgs false
set_option maxHeartbeats 4000000
namespace Go.Proofs.Ytnnjpiepoeknnaa.PE
open Go.RowKit

theorem val_own (h : Heap) (v : Val) : OwnR h fdValue v.cells (valU v) [] := ownR_mk_Value h v.kind v.n v.s
theorem own_cloneVal (d : Nat) (c : Bool) (vs : List Val) (hl : vs.length < 4294967296) : ∃ v hc ids, runD tab noExt (d + 2) 112 [.sl c 3 (vs.map Val.cells)] [] = some ([v], hc) ∧ OwnF hc (.sub fdValue) v (.sub (vs.map valU)) ids ∧ ids.Nodup := by
  match vs, hl with
  | [], _ => exact ⟨_, _, [], runnVal d c, own_nil rfl, List.nodup_nil⟩
  | x :: r, hl => exact ⟨_, _, [0], runcVal d c ((x :: r).map Val.cells) (by simp) (by simpa using hl), own_row rfl (x :: r) (by simp) rfl (val_own _), by simp⟩
-- find109
theorem loop_copy (d : Nat) (c : Bool) (rs : List Row) (hf : Fine rs) : ∃ h' cont r, LoopK (runD tab noExt (d + 2)) (drawI (runD tab noExt (d + 2))) [3, 6, 7, 8] [3] L109x0 1099511627775 [(3, .ref 0 0 0 0 false), (6, .sl c 1 (rs.map Row.cells)), (7, .int .i64 rs.length), (8, .int .i64 0)] [.nest 0 1 []] = some (.exit 0, [(3, .ref 0 rs.length 0 rs.length false)], h') ∧ h'[0]? = some (.nest rs.length 1 cont) ∧ cont.length = rs.length ∧ Zip3 (OwnR h' fdValueS) cont (rs.map rowU) r ∧ (0 :: r).Nodup := by
  have hf0 := hf.1
  obtain ⟨h', ⟨done, ids, g1, g2, g3, g4, g5⟩, e⟩ := LoopK_inv (run := runD tab noExt (d + 2)) (draw := drawI (runD tab noExt (d + 2))) (live := [3, 6, 7, 8]) (out := [3]) (c := L109x0) rs.length
    (fun i (h : Heap) => ∃ done ids, h[0]? = some (.nest i 1 done) ∧ done.length = i ∧ Zip3 (OwnR h fdValueS) done ((rs.take i).map rowU) ids ∧ ids.Nodup ∧ 0 ∉ ids)
    (fun i _ => [(3, .ref 0 i 0 i false), (6, .sl c 1 (rs.map Row.cells)), (7, .int .i64 rs.length), (8, .int .i64 (i : Nat))]) (fun h => h) (fun h => some (.exit 0, [(3, .ref 0 rs.length 0 rs.length false)], h))
    (fun h K hb => by
      rw [LoopK_eq]
      simp -implicitDefEqProofs only [go_sem, Nat.reduceBEq, Nat.reduceAdd, Nat.reduceSub, Nat.reduceMul, Nat.reduceLeDiff, Nat.reduceEqDiff, Nat.reduceLT, Int.reduceNeg, Int.reduceAdd, Int.reduceSub, Int.reduceMul, Int.reduceLE, Int.reduceLT, Int.reduceEq, Int.reduceToNat, reduceCtorEq, evL109x0, B109x0, Int.lt_irrefl]) (fun i h K hi hb => by
      obtain ⟨done, ids, g1, g2, g3, g4, g5⟩ := hb
      have hx := List.getElem?_eq_getElem hi
      generalize rs[i] = x at hx
      obtain ⟨v, hc, is0, e1, e2, e3⟩ := own_cloneVal d x.clip x.vs (Fine_at hf hx)
      obtain ⟨w, h1, js, k1, k2, k3, k4, k5, k6⟩ := own_call (h := h) (args := [.sl x.clip 3 (x.vs.map Val.cells)]) (by simp only [pureDAs, mapO, pureDA, pureD]) e1 e2 e3
      have h0 : 0 < h.length := (List.getElem?_eq_some_iff.1 g1).1
      have h10 : 0 < h1.length := by omega
      have g1' : h1[0]? = some (.nest i 1 done) := by rw [k5 0 h0, g1]
      have hlt := Zip3_all (fun c x i hr => OwnR_lt fdValueS hr) g3
      have hj0 : 0 ∉ js := fun hm => by have := k4 0 hm; omega
      refine ⟨h1.set 0 (.nest (i + 1) 1 (done ++ [[w]])), ⟨done ++ [[w]], ids ++ js, ?_, by simp [g2], ?_, ?_, ?_⟩, ?_⟩
      · rw [List.getElem?_set_self h10]
      · rw [take_snoc hx, List.map_append]
        refine Zip3_app (Zip3_mono (P := fun id => id ∈ ids) (fun c x j hr hp => OwnR_frame _ hr (fun id hid => ?_)) g3 (fun _ h => h)) (Zip3_one ⟨w, [], _, [], js, [], rfl, rfl, by simp, OwnF_frame _ k2 (fun id hid => ?_), rfl, rfl, rfl⟩)
        · have hne : 0 ≠ id := fun e => g5 (e ▸ hp id hid)
          rw [List.getElem?_set_ne hne]
          exact k5 id (hlt id (hp id hid))
        · have hne : 0 ≠ id := fun e => hj0 (e ▸ hid)
          rw [List.getElem?_set_ne hne]
      · refine List.nodup_append.2 ⟨g4, k3, fun p hp q hq => ?_⟩
        have := hlt p hp
        have := k4 q hq
        omega
      · intro hm
        rcases List.mem_append.1 hm with hm | hm
        · exact g5 hm
        · exact hj0 hm
      · have hi' : (i : Int) < rs.length := by omega
        have hsm : done.length + 1 < 4294967296 := by omega
        rw [LoopK_eq]
        subst g2
        rcases own_cases k2 with ⟨c', rfl⟩ | ⟨id, st, n, clip, rfl⟩
        · simp -implicitDefEqProofs (disch := omega) only [go_sem, Nat.reduceBEq, Nat.reduceAdd, Nat.reduceSub, Nat.reduceMul, Nat.reduceLeDiff, Nat.reduceEqDiff, Nat.reduceLT, Int.reduceNeg, Int.reduceAdd, Int.reduceSub, Int.reduceMul, Int.reduceLE, Int.reduceLT, Int.reduceEq, Int.reduceToNat, reduceCtorEq, evL109x0, B109x0, hi', hx, Row.cells, Row.v, k1, g1', elemsN, elemN, listN, appendN, okN, hsm, IntWalk.i64_in, small]
        · simp -implicitDefEqProofs (disch := omega) only [go_sem, Nat.reduceBEq, Nat.reduceAdd, Nat.reduceSub, Nat.reduceMul, Nat.reduceLeDiff, Nat.reduceEqDiff, Nat.reduceLT, Int.reduceNeg, Int.reduceAdd, Int.reduceSub, Int.reduceMul, Int.reduceLE, Int.reduceLT, Int.reduceEq, Int.reduceToNat, reduceCtorEq, evL109x0, B109x0, hi', hx, Row.cells, Row.v, k1, g1', elemsN, elemN, listN, appendN, okN, hsm, IntWalk.i64_in, small]) 1099511627775 (by omega) [.nest 0 1 []] ⟨[], [], rfl, rfl, rfl, List.nodup_nil, by simp⟩
  rw [List.take_of_length_le (Nat.le_refl _)] at g3
  exact ⟨h', done, ids, e, g1, g2, g3, List.nodup_cons.2 ⟨g5, g4⟩⟩
theorem clip_nest (d : Nat) (h : Heap) (n : Nat) {cont : List (List V)} (hb : h[0]? = some (.nest n 1 cont)) (hn : cont.length = n) : callX (runD tab noExt (d + 1)) h 2 167 [.ref 0 n 0 n false] = some (.ref 0 n 0 n true, h) := by
  simp only [callX, callK]
  rw [runD_eq find167 _ _ _ (by simp)]
  simp -implicitDefEqProofs (disch := omega) only [go_sem, Nat.reduceBEq, Nat.reduceAdd, Nat.reduceSub, Nat.reduceMul, Nat.reduceLeDiff, Nat.reduceEqDiff, Nat.reduceLT, Int.reduceNeg, Int.reduceAdd, Int.reduceSub, Int.reduceMul, Int.reduceLE, Int.reduceLT, Int.reduceEq, Int.reduceToNat, reduceCtorEq, Bool.true_or, resOk, hb, hn]
theorem own_rowsCopy (d : Nat) (c : Bool) (rs : List Row) (hf : Fine rs) : ∃ v hc ids, runD tab noExt (d + 3) 109 [.sl c 1 (rs.map Row.cells)] [] = some ([v], hc) ∧ OwnF hc (.sub fdValueS) v (.sub (rs.map rowU)) ids ∧ ids.Nodup := by
  obtain ⟨h', cont, r, e, e1, e2, e3, e4⟩ := loop_copy d c rs hf
  refine ⟨.ref 0 rs.length 0 rs.length true, h', 0 :: r, ?_, ?_, e4⟩
  · rw [runD_eq find109 _ _ _ (by simp)]
    have h0 := hf.1
    have hc := clip_nest (d + 1) h' rs.length e1 e2
    simp -implicitDefEqProofs (disch := omega) only [go_sem, Nat.reduceBEq, Nat.reduceAdd, Nat.reduceSub, Nat.reduceMul, Nat.reduceLeDiff, Nat.reduceEqDiff, Nat.reduceLT, Int.reduceNeg, Int.reduceAdd, Int.reduceSub, Int.reduceMul, Int.reduceLE, Int.reduceLT, Int.reduceEq, Int.reduceToNat, reduceCtorEq]
    try simp -implicitDefEqProofs only [go_sem, Nat.reduceBEq, Nat.reduceAdd, Nat.reduceSub, Nat.reduceMul, Nat.reduceLeDiff, Nat.reduceEqDiff, Nat.reduceLT, Int.reduceNeg, Int.reduceAdd, Int.reduceSub, Int.reduceMul, Int.reduceLE, Int.reduceLT, Int.reduceEq, Int.reduceToNat, reduceCtorEq] at e
    rw [e]
    simp -implicitDefEqProofs (disch := omega) only [go_sem, Nat.reduceBEq, Nat.reduceAdd, Nat.reduceSub, Nat.reduceMul, Nat.reduceLeDiff, Nat.reduceEqDiff, Nat.reduceLT, Int.reduceNeg, Int.reduceAdd, Int.reduceSub, Int.reduceMul, Int.reduceLE, Int.reduceLT, Int.reduceEq, Int.reduceToNat, reduceCtorEq, hc]
  · simp only [OwnF]
    exact ⟨_, rfl, .inr ⟨0, rs.length, true, cont, r, by rw [e2], e1, rfl, e3⟩⟩
end Go.Proofs.Ytnnjpiepoeknnaa.PE
/- The row that a key has at a time, and the rows at a time: the program's. -/
set_option linter.unusedVariables false
set_option linter.unusedSimpArgs false
set_option maxHeartbeats 4000000
namespace Go.Proofs.Ytnnjpiepoeknnaa.PE
open Go.RowKit

-- find45
theorem run_seenI (d : Nat) (c : Bool) (l : List Ver) (key time : Int) (hs : l.length < 1099511627776) (hsh : ShortVs l) (hfn : ∀ v ∈ l, v.row.vs.length < 4294967296) : ∃ cl, retP (runD tab noExt (d + 9)) 45 [.sl c 4 (l.map Ver.cells), .int .i64 key, .int .i64 time] = some [.sl cl 3 (((rowAt l key time).getD Ver.zero).row.vs.map Val.cells), .bool (rowAt l key time).isSome] := by
  rw [retP, runD_eq find45 _ _ _ (by simp)]
  have hv := run_versI d c l hs hsh
  have hse := run_seen (d + 7) c l key time hs
  have hmem : ∀ v, l.find? (Ver.at key time) = some v → v ∈ l := fun v hv => List.mem_of_find?_eq_some hv
  unfold rowAt
  cases hok : versOk l
  · rw [hok] at hv
    exact ⟨true, by simp -implicitDefEqProofs (disch := omega) only [go_sem, Nat.reduceBEq, Nat.reduceAdd, Nat.reduceSub, Nat.reduceMul, Nat.reduceLeDiff, Nat.reduceEqDiff, Nat.reduceLT, Int.reduceNeg, Int.reduceAdd, Int.reduceSub, Int.reduceMul, Int.reduceLE, Int.reduceLT, Int.reduceEq, Int.reduceToNat, reduceCtorEq, hv, Option.getD_none, Option.isSome_none, Ver.zero, List.map_nil]⟩
  · rw [hok] at hv
    generalize hw : (l.find? (Ver.at key time)) = o at hse hmem ⊢
    have hlen : (o.getD Ver.zero).row.vs.length < 4294967296 := by
      cases o with
      | none => simp [Ver.zero]
      | some v => exact hfn v (hmem v rfl)
    simp only [if_true]
    generalize o.getD Ver.zero = w at hse hlen ⊢
    clear hw hmem
    obtain ⟨key', born, died, ⟨rc, vs⟩⟩ := w
    try simp only at hlen
    try simp only [if_true]
    cases vs with
    | nil =>
      have hcl := clonenVal (d + 6) [.box [.int .i64 key', .int .i64 born, .int .i64 died, .sl rc 3 []]] rc
      exact ⟨true, by simp -implicitDefEqProofs (disch := omega) only [go_sem, Nat.reduceBEq, Nat.reduceAdd, Nat.reduceSub, Nat.reduceMul, Nat.reduceLeDiff, Nat.reduceEqDiff, Nat.reduceLT, Int.reduceNeg, Int.reduceAdd, Int.reduceSub, Int.reduceMul, Int.reduceLE, Int.reduceLT, Int.reduceEq, Int.reduceToNat, reduceCtorEq, hv, hse, Ver.cells, Row.v, List.map_nil, hcl]⟩
    | cons x r =>
      have hcl := clonexVal (d + 6) [.box [.int .i64 key', .int .i64 born, .int .i64 died, .sl rc 3 ((x :: r).map Val.cells)]] rc ((x :: r).map Val.cells) (by simp) (by simpa using hlen) (by simp [Val.cells, freshC])
      simp only [List.length_map, List.length_cons, List.map_cons, Val.cells] at hcl
      exact ⟨true, by simp -implicitDefEqProofs (disch := omega) only [go_sem, Nat.reduceBEq, Nat.reduceAdd, Nat.reduceSub, Nat.reduceMul, Nat.reduceLeDiff, Nat.reduceEqDiff, Nat.reduceLT, Int.reduceNeg, Int.reduceAdd, Int.reduceSub, Int.reduceMul, Int.reduceLE, Int.reduceLT, Int.reduceEq, Int.reduceToNat, reduceCtorEq, hv, hse, Ver.cells, Row.v, List.map_cons, Val.cells, hcl]⟩
def addRowI (l : List Ver) (time : Int) (b : List Row) (k : Int) : List Row := match l.find? (Ver.at k time) with
  | some v => b ++ [v.row]
  | none => b
theorem addRowI_len {l : List Ver} {time k : Int} {b : List Row} {i : Nat} (h : b.length ≤ i) : (addRowI l time b k).length ≤ i + 1 := by
  unfold addRowI
  split
  · simp; omega
  · omega
theorem addRowI_eq (l : List Ver) (time : Int) (hok : versOk l = true) : ∀ (ks : List Int) (b : List Row), (ks.foldl (addRowI l time) b).map rowU = b.map rowU ++ ((ks.filterMap fun k => rowV l k time).map (Row.mk false)).map rowU
  | [], b => by simp
  | k :: ks, b => by
    rw [List.foldl_cons, addRowI_eq l time hok ks]
    have e : rowV l k time = (l.find? (Ver.at k time)).map fun v => v.row.vs := by unfold rowV rowAt; rw [hok]; rfl
    unfold addRowI
    cases h : l.find? (Ver.at k time) with
    | none => rw [h] at e; simp at e; simp [e]
    | some v => rw [h] at e; simp at e; simp [e, rowU]
theorem addRowI_fine (l : List Ver) (time : Int) (hfn : ∀ v ∈ l, v.row.vs.length < 4294967296) : ∀ (ks : List Int) (b : List Row), (∀ r ∈ b, r.vs.length < 4294967296) → ∀ r ∈ ks.foldl (addRowI l time) b, r.vs.length < 4294967296
  | [], b, hb => hb
  | k :: ks, b, hb => by
    refine addRowI_fine l time hfn ks _ (fun r hr => ?_)
    unfold addRowI at hr
    split at hr
    · rename_i v hv
      rcases List.mem_append.1 hr with hr | hr
      · exact hb r hr
      · rw [List.mem_singleton.1 hr]
        exact hfn v (List.mem_of_find?_eq_some hv)
    · exact hb r hr
theorem loop_rowsAtI (d : Nat) (c : Bool) (l : List Ver) (time : Int) (hs : l.length < 1099511627776) (K : Nat) (hK : (keys5).length ≤ K) (b0 : List Row) (hb0 : (fun (i : Nat) (b : List Row) => b.length ≤ i) 0 b0) : LoopS (runD tab noExt (d + 1)) (drawI (runD tab noExt (d + 1))) [0, 1, 5, 12] [5] L42x0 ([.rows (b0).length 1 ((b0).map Row.cells)] : Heap).length K [(0, .sl c 4 (l.map Ver.cells)), (1, .int .i64 time), (5, .ref 0 (b0).length 0 (b0).length false), (12, .int .i64 (0 : Nat))] [.rows (b0).length 1 ((b0).map Row.cells)] = (some (.exit 0, [(5, .ref 0 (((keys5).foldl (addRowI l time) b0)).length 0 (((keys5).foldl (addRowI l time) b0)).length false)], [.rows (((keys5).foldl (addRowI l time) b0)).length 1 ((((keys5).foldl (addRowI l time) b0)).map Row.cells)]) : Out) ∧ (fun (i : Nat) (b : List Row) => b.length ≤ i) (keys5).length ((keys5).foldl (addRowI l time) b0) := by
  have key := LoopS_foldI (run := (runD tab noExt (d + 1))) (draw := drawI (runD tab noExt (d + 1))) (live := [0, 1, 5, 12]) (out := [5]) (c := L42x0) (n0 := ([.rows (b0).length 1 ((b0).map Row.cells)] : Heap).length) (keys5) (addRowI l time) (fun (i : Nat) (b : List Row) => b.length ≤ i) (fun (i : Nat) (b : List Row) => [(0, .sl c 4 (l.map Ver.cells)), (1, .int .i64 time), (5, .ref 0 (b).length 0 (b).length false), (12, .int .i64 (i : Nat))]) (fun (i : Nat) (b : List Row) => [.rows (b).length 1 ((b).map Row.cells)]) (fun b => (some (.exit 0, [(5, .ref 0 (b).length 0 (b).length false)], [.rows (b).length 1 ((b).map Row.cells)]) : Out)) (fun b K hb => ?_) (fun (i : Nat) (x : Int) b K hi hx hb => ?_) K hK b0 hb0
  · simp only [Int.natCast_zero] at key
    exact key
  · rw [LoopS_eq]
    simp -implicitDefEqProofs only [go_sem, Nat.reduceBEq, Nat.reduceAdd, Nat.reduceSub, Nat.reduceMul, Nat.reduceLeDiff, Nat.reduceEqDiff, Nat.reduceLT, Int.reduceNeg, Int.reduceAdd, Int.reduceSub, Int.reduceMul, Int.reduceLE, Int.reduceLT, Int.reduceEq, Int.reduceToNat, reduceCtorEq, evL42x0, B42x0, Int.lt_irrefl, keys5_len]
  · obtain ⟨rfl, hi5⟩ := keys_at hx; have hsm : b.length + 1 < 4294967296 := (by simp [keys5] at hi; omega); have hseen := run_seen d c l (i : Int) time hs; cases hq : l.find? (Ver.at (i : Int) time) <;> simp only [hq, Option.isSome_none, Option.isSome_some, Option.getD_none, Option.getD_some, Ver.cells, Row.v] at hseen
    all_goals
      refine ⟨?_, ?_⟩
      · exact addRowI_len hb
      · rw [LoopS_eq]
        simp -implicitDefEqProofs (disch := first | omega | assumption) only [go_sem, Nat.reduceBEq, Nat.reduceAdd, Nat.reduceSub, Nat.reduceMul, Nat.reduceLeDiff, Nat.reduceEqDiff, Nat.reduceLT, Int.reduceNeg, Int.reduceAdd, Int.reduceSub, Int.reduceMul, Int.reduceLE, Int.reduceLT, Int.reduceEq, Int.reduceToNat, reduceCtorEq, evL42x0, B42x0, hi, hx, IntWalk.i64_in, List.map_append, List.foldl_cons, keys5_len, hseen, hsm, hi5, Row.cells, Row.v]
        (simp -implicitDefEqProofs (disch := first | omega | assumption) only [go_sem, Nat.reduceBEq, Nat.reduceAdd, Nat.reduceSub, Nat.reduceMul, Nat.reduceLeDiff, Nat.reduceEqDiff, Nat.reduceLT, Int.reduceNeg, Int.reduceAdd, Int.reduceSub, Int.reduceMul, Int.reduceLE, Int.reduceLT, Int.reduceEq, Int.reduceToNat, reduceCtorEq, addRowI, hq, hseen, Row.cells, Row.v, List.map_append, List.map_cons, List.map_nil, IntWalk.i64_in])
-- find42
theorem own_rowsAt (d : Nat) (c : Bool) (l : List Ver) (time : Int) (hs : l.length < 1099511627776) (hsh : ShortVs l) (hfn : ∀ v ∈ l, v.row.vs.length < 4294967296) : ∃ v hc ids, runD tab noExt (d + 9) 42 [.sl c 4 (l.map Ver.cells), .int .i64 time] [] = some ([v], hc) ∧ OwnF hc (.sub fdValueS) v (.sub ((rowsAtV l time).map rowU)) ids ∧ ids.Nodup := by
  have hv := run_versI d c l hs hsh
  cases hok : versOk l
  · rw [hok] at hv
    have e : rowsAtV l time = [] := by
      rw [rowsAtV_eq]
      simp [keys5, rowV, rowAt, hok]
    rw [e]
    refine ⟨.sl true 1 [], [], [], ?_, own_nil rfl, List.nodup_nil⟩
    rw [runD_eq find42 _ _ _ (by simp)]
    simp -implicitDefEqProofs (disch := omega) only [go_sem, Nat.reduceBEq, Nat.reduceAdd, Nat.reduceSub, Nat.reduceMul, Nat.reduceLeDiff, Nat.reduceEqDiff, Nat.reduceLT, Int.reduceNeg, Int.reduceAdd, Int.reduceSub, Int.reduceMul, Int.reduceLE, Int.reduceLT, Int.reduceEq, Int.reduceToNat, reduceCtorEq, hv]
  · rw [hok] at hv
    obtain ⟨hl, hlen⟩ := loop_rowsAtI (d + 7) c l time hs 1099511627775 (by simp [keys5]) [] (by simp)
    have e : (keys5.foldl (addRowI l time) []).map rowU = (rowsAtV l time).map rowU := by
      rw [addRowI_eq l time hok, rowsAtV_eq]
      rfl
    have hfin : Fine (keys5.foldl (addRowI l time) []) := ⟨by simp [keys5] at hlen ⊢; omega, addRowI_fine l time hfn keys5 [] (fun r hr => by cases hr)⟩
    generalize keys5.foldl (addRowI l time) [] = rs at hl hlen e hfin
    have et : List.take rs.length (rs.map Row.cells) = rs.map Row.cells := List.take_of_length_le (by simp)
    obtain ⟨v1, hc, is0, e1, e2, e3⟩ := own_rowsCopy (d + 5) false rs hfin
    obtain ⟨w, h1, js, k1, k2, k3, k4, k5, k6⟩ := own_call (h := [.rows rs.length 1 (rs.map Row.cells)]) (args := [.ref 0 rs.length 0 rs.length false]) (by simp only [pureDAs, mapO, pureDA, pureD, deepest, List.getElem?_cons_zero, if_true, List.drop_zero, et]) e1 e2 e3
    simp only [List.length_nil, List.map_nil, Int.natCast_zero, List.length_cons] at hl
    rw [e] at k2
    refine ⟨w, h1, js, ?_, k2, k3⟩
    rw [runD_eq find42 _ _ _ (by simp)]
    simp -implicitDefEqProofs (disch := omega) only [go_sem, Nat.reduceBEq, Nat.reduceAdd, Nat.reduceSub, Nat.reduceMul, Nat.reduceLeDiff, Nat.reduceEqDiff, Nat.reduceLT, Int.reduceNeg, Int.reduceAdd, Int.reduceSub, Int.reduceMul, Int.reduceLE, Int.reduceLT, Int.reduceEq, Int.reduceToNat, reduceCtorEq, hv]
    try simp -implicitDefEqProofs only [go_sem, Nat.reduceBEq, Nat.reduceAdd, Nat.reduceSub, Nat.reduceMul, Nat.reduceLeDiff, Nat.reduceEqDiff, Nat.reduceLT, Int.reduceNeg, Int.reduceAdd, Int.reduceSub, Int.reduceMul, Int.reduceLE, Int.reduceLT, Int.reduceEq, Int.reduceToNat, reduceCtorEq] at hl
    rw [hl]
    rcases own_cases k2 with ⟨c', rfl⟩ | ⟨id, st, n, clip, rfl⟩
    · simp -implicitDefEqProofs (disch := first | omega | assumption) only [go_sem, Nat.reduceBEq, Nat.reduceAdd, Nat.reduceSub, Nat.reduceMul, Nat.reduceLeDiff, Nat.reduceEqDiff, Nat.reduceLT, Int.reduceNeg, Int.reduceAdd, Int.reduceSub, Int.reduceMul, Int.reduceLE, Int.reduceLT, Int.reduceEq, Int.reduceToNat, reduceCtorEq, k1, resOk]
    · simp -implicitDefEqProofs (disch := first | omega | assumption) only [go_sem, Nat.reduceBEq, Nat.reduceAdd, Nat.reduceSub, Nat.reduceMul, Nat.reduceLeDiff, Nat.reduceEqDiff, Nat.reduceLT, Int.reduceNeg, Int.reduceAdd, Int.reduceSub, Int.reduceMul, Int.reduceLE, Int.reduceLT, Int.reduceEq, Int.reduceToNat, reduceCtorEq, k1, resOk]
end Go.Proofs.Ytnnjpiepoeknnaa.PE
/- Calls whose results are memory of one's own, and a number beside it. -/
set_option linter.unusedVariables false
set_option linter.unusedSimpArgs false
namespace Go.Proofs.Ytnnjpiepoeknnaa.PE
open Go.RowKit

theorem own_callAS {run : Run} {h : Heap} {f : Nat} {args args' : List V} {cs : List V} {s : V} {hc : Heap} {fs : List Fd} {x : List U} {ids : List Nat} (hp : pureDAs h args = some args') (hr : run f args' [] = some ([.agg cs, s], hc)) (ho : OwnR hc fs cs x ids) (hn : ids.Nodup) (hs : cs.all scalar = false) (hsc : scalar s = true) :
    ∃ cs' h' ids', callX run h 0 f args = some (.tup [.agg cs', s], h') ∧ OwnR h' fs cs' x ids' ∧ ids'.Nodup ∧ (∀ j ∈ ids', h.length ≤ j) ∧ (∀ j, j < h.length → h'[j]? = h[j]?) ∧ h.length ≤ h'.length := by
  have hf := OwnR_fresh fs ho
  refine ⟨cs.map (shC h.length), h ++ movedH h.length hc, ids.map (· + h.length), ?_, OwnR_moved _ ho, ?_, fun j hj => ?_, fun j hj => by rw [List.getElem?_append_left hj], by simp⟩
  · cases s <;> first | (simp only [callX, callO, hp, hr, BackO, List.all_cons, List.all_nil, scalarA, freshA, freshC, shC, hs, hf, Bool.false_eq_true, Bool.false_and, Bool.true_and, Bool.and_self, if_false, if_true, List.map_cons, List.map_nil, oneOf, shA]; done) | cases hsc
  · exact (List.pairwise_map.2 (List.Pairwise.imp (fun {a b} hab => by simp only [ne_eq] at hab ⊢; omega) hn))
  · obtain ⟨i, _, rfl⟩ := List.mem_map.1 hj
    omega
theorem own_callFS {run : Run} {h : Heap} {f : Nat} {args args' : List V} {v s : V} {hc : Heap} {fs : List Fd} {u : U} {ids : List Nat} (hp : pureDAs h args = some args') (hr : run f args' [] = some ([v, s], hc)) (ho : OwnF hc (.sub fs) v u ids) (hn : ids.Nodup) (hsc : scalar s = true) :
    ∃ v' h' ids', callX run h 0 f args = some (.tup [v', s], h') ∧ OwnF h' (.sub fs) v' u ids' ∧ ids'.Nodup ∧ (∀ j ∈ ids', h.length ≤ j) ∧ (∀ j, j < h.length → h'[j]? = h[j]?) ∧ h.length ≤ h'.length := by
  refine ⟨shC h.length v, h ++ movedH h.length hc, ids.map (· + h.length), ?_, OwnF_moved _ ho, ?_, fun j hj => ?_, fun j hj => by rw [List.getElem?_append_left hj], by simp⟩
  · rcases own_cases ho with ⟨c, rfl⟩ | ⟨id, st, n, clip, rfl⟩ <;> cases s <;> first | (simp only [callX, callO, hp, hr, BackO, List.all_cons, List.all_nil, scalarA, scalar, freshA, freshC, isNil, shA, shC, Bool.false_eq_true, Bool.false_and, Bool.true_and, Bool.and_self, Bool.and_true, if_false, if_true, List.map_cons, List.map_nil, oneOf]; done) | cases hsc
  · exact (List.pairwise_map.2 (List.Pairwise.imp (fun {a b} hab => by simp only [ne_eq] at hab ⊢; omega) hn))
  · obtain ⟨i, _, rfl⟩ := List.mem_map.1 hj
    omega
theorem pureDA_sl (h : Heap) (c : Bool) (n : Nat) (xs : List (List V)) : pureDA h (.sl c n xs) = some (.sl c n xs) := rfl
end Go.Proofs.Ytnnjpiepoeknnaa.PE
/- Steps of exact statements of structs. -/
set_option linter.unusedVariables false
set_option linter.unusedSimpArgs false
namespace Go.Proofs.Ytnnjpiepoeknnaa.PE
open Go.RowKit

theorem pureDA_of {h : Heap} {fs : List Fd} {v q : V} {u : U} {ids : List Nat} (ho : OwnF h (.sub fs) v u ids) (e : pureD h 6 v = some q) : pureDA h v = some q := by
  rcases own_cases ho with ⟨c, rfl⟩ | ⟨id, st, n, clip, rfl⟩ <;> exact e
theorem pureDA_agg (h : Heap) (cs : List V) : pureDA h (.agg cs) = (mapO (pureD h 6) cs).map .agg := rfl
theorem pureD_intv (h : Heap) (n : Nat) (k : IntKind) (m : Int) : pureD h n (.int k m) = some (.int k m) := by cases n <;> rfl
theorem pureD_boolv (h : Heap) (n : Nat) (b : Bool) : pureD h n (.bool b) = some (.bool b) := by cases n <;> rfl
theorem pureD_strv (h : Heap) (n : Nat) (b : ByteArray) : pureD h n (.str b) = some (.str b) := by cases n <;> rfl
end Go.Proofs.Ytnnjpiepoeknnaa.PE
/- Versions as trees: what their sizes say, that only their values matter. -/
set_option linter.unusedVariables false
set_option linter.unusedSimpArgs false
set_option maxHeartbeats 4000000
namespace Go.Proofs.Ytnnjpiepoeknnaa.PE
open Go.RowKit

def verU (v : Ver) : List U := [.int v.key, .int v.born, .int v.died, .sub (v.row.vs.map valU)]
theorem vals_each {y : List (List U)} {p : V} (h : PurF (.sub fdValue) p (.sub y)) : ∃ (r : Row), p = r.v ∧ y = r.vs.map valU := by
  obtain ⟨cl, ct, rfl, hz⟩ := purS_Value h
  obtain ⟨vs, rfl, rfl⟩ := valsU_of hz
  exact ⟨⟨cl, vs⟩, rfl, rfl⟩
theorem versU_of {l1 : List (List V)} {l2 : List (List U)} (h : Zip2 (PurR fdVersion) l1 l2) : ∃ vs : List Ver, l1 = vs.map Ver.cells ∧ l2 = vs.map verU :=
  typ_of (fun c x hr => by
    obtain ⟨a0, a1, a2, p3, y3, rfl, rfl, g⟩ := purR_Version hr
    obtain ⟨r, rfl, rfl⟩ := vals_each g
    exact ⟨⟨a0, a1, a2, r⟩, rfl, rfl⟩) h
theorem verU_inj {a b : Ver} (h : verU a = verU b) : a.plain = b.plain := by
  simp only [verU, List.cons.injEq, U.int.injEq, U.sub.injEq, and_true] at h
  obtain ⟨h1, h2, h3, h4⟩ := h
  have := map_inj (fun _ _ => valU_inj) h4
  simp only [Ver.plain, h1, h2, h3, this]
theorem plain_of : ∀ {a b : List Ver}, a.map verU = b.map verU → a.map Ver.plain = b.map Ver.plain
  | [], [], _ => rfl
  | x :: a, y :: b, h => by
    simp only [List.map_cons, List.cons.injEq] at h
    rw [List.map_cons, List.map_cons, verU_inj h.1, plain_of h.2]
  | [], _ :: _, h => by simp at h
  | _ :: _, [], h => by simp at h
theorem vers_each {l : List Ver} {q : V} (k : PurF (.sub fdVersion) q (.sub (l.map verU))) : ∃ (c : Bool) (l2 : List Ver), q = .sl c 4 (l2.map Ver.cells) ∧ l2.map verU = l.map verU := by
  obtain ⟨c, _, rfl, y0⟩ := purS_Version k
  obtain ⟨l', rfl, e0⟩ := versU_of y0
  exact ⟨c, l', rfl, e0.symm⟩
theorem ver_pur (v : Ver) : PurR fdVersion v.cells (verU v) := purR_mk_Version (pur_map val_pur _ 3 rfl _)
theorem prevs_plain : ∀ (l : List Ver) (o : Option Ver), prevs (o.map Ver.plain) (l.map Ver.plain) = (prevs o l).map fun p => (p.1.map Ver.plain, p.2.plain)
  | [], _ => rfl
  | v :: r, o => by
    have := prevs_plain r (some v)
    simp only [Option.map_some] at this
    simp only [List.map_cons, prevs, this]
theorem versOk_plain (l : List Ver) : versOk (l.map Ver.plain) = versOk l := by
  have := prevs_plain l none
  simp only [Option.map_none] at this
  unfold versOk
  rw [this, List.all_map, List.length_map]
  congr 2
  funext p
  obtain ⟨o, v⟩ := p
  cases o <;> rfl
theorem find_plain (k t : Int) : ∀ (l : List Ver), (l.map Ver.plain).find? (Ver.at k t) = (l.find? (Ver.at k t)).map Ver.plain
  | [] => rfl
  | v :: r => by
    have e : Ver.at k t v.plain = Ver.at k t v := rfl
    rw [List.map_cons, List.find?_cons, List.find?_cons, e, find_plain k t r]
    cases Ver.at k t v <;> rfl
theorem rowV_plain (l : List Ver) (k t : Int) : rowV (l.map Ver.plain) k t = rowV l k t := by
  unfold rowV rowAt
  rw [versOk_plain, find_plain]
  cases versOk l
  · rfl
  · simp only [if_true, Option.map_map]
    rfl
theorem rowV_vs {a b : List Ver} (h : a.map verU = b.map verU) (k t : Int) : rowV a k t = rowV b k t := by rw [← rowV_plain a, ← rowV_plain b, plain_of h]
theorem versOk_vs {a b : List Ver} (h : a.map verU = b.map verU) : versOk a = versOk b := by rw [← versOk_plain a, ← versOk_plain b, plain_of h]
/-- What a size says of versions. -/
theorem vers_lim {l : List Ver} (L : LenF 1048576 1048576 (.sub fdVersion) (.sub (l.map verU))) : l.length ≤ 1048576 ∧ (∀ v ∈ l, v.row.vs.length ≤ 1048576 ∧ ∀ w ∈ v.row.vs, w.s.size ≤ 1048576) := by
  simp only [LenF, List.length_map] at L
  refine ⟨L.1, fun v hv => ?_⟩
  obtain ⟨i, hi⟩ := List.getElem?_of_mem hv
  have := AllU_at L.2 (map_at verU hi)
  simp only [fdVersion, verU, LenR, LenF, List.length_map, true_and, and_true] at this
  refine ⟨this.1, fun w hw => ?_⟩
  obtain ⟨j, hj⟩ := List.getElem?_of_mem hw
  have := AllU_at this.2 (map_at valU hj)
  simp only [fdValue, valU, LenR, LenF, true_and, and_true] at this
  exact this
theorem vers_lims {a b : List Ver} (e : a.map verU = b.map verU) (L : LenF 1048576 1048576 (.sub fdVersion) (.sub (b.map verU))) : a.length ≤ 1048576 ∧ ShortVs a ∧ (∀ v ∈ a, v.row.vs.length < 4294967296) ∧ (∀ v ∈ a, v.row.vs.length ≤ 1048576 ∧ ∀ w ∈ v.row.vs, w.s.size ≤ 1048576) := by
  rw [← e] at L
  obtain ⟨h1, h2⟩ := vers_lim L
  exact ⟨h1, fun v hv => ⟨by have := (h2 v hv).1; omega, fun w hw => by have := (h2 v hv).2 w hw; omega⟩, fun v hv => by have := (h2 v hv).1; omega, h2⟩
/-- What a key has comes from a version. -/
theorem rowV_mem {l : List Ver} {k t : Int} {vs : List Val} (h : rowV l k t = some vs) : ∃ v ∈ l, v.row.vs = vs := by
  unfold rowV rowAt at h
  split at h
  · obtain ⟨v, hv, rfl⟩ := Option.map_eq_some_iff.1 h
    exact ⟨v, List.mem_of_find?_eq_some hv, rfl⟩
  · cases h
end Go.Proofs.Ytnnjpiepoeknnaa.PE
/- The law of rows at a time. -/
set_option linter.unusedSimpArgs false
set_option linter.unusedVariables false
set_option maxHeartbeats 4000000
namespace Go.Proofs.Ytnnjpiepoeknnaa.PE
open Go.RowKit

/-- Memory of one's own, told as a value. -/
theorem retP_own {run : Run} {f : Nat} {args : List V} {v : V} {hc : Heap} {fs : List Fd} {u : U} {ids : List Nat} (hr : run f args [] = some ([v], hc)) (ho : OwnF hc (.sub fs) v u ids) (hd : dep (.sub fs) ≤ 6) : ∃ q, retP run f args = some [q] ∧ PurF (.sub fs) q u := by
  obtain ⟨q, e1, e2⟩ := OwnF_pure (.sub fs) 6 hd ho
  have e3 := pureDA_of ho e1
  refine ⟨q, ?_, e2⟩
  unfold retP
  rw [hr, PureR_some]
  have hA : pureAs hc [v] = none ∨ pureAs hc [v] = some [q] := by
    simp only [OwnF] at ho
    obtain ⟨xs, rfl, ⟨c, rfl, rfl, _⟩ | ⟨id, st, clip, cont, r, rfl, e, _, _⟩⟩ := ho
    · right
      simp only [pureD, Option.some.injEq] at e1
      subst e1
      rfl
    · simp only [pureAs, pureA, pureC, e, blkOf]
      cases hdeep : fs.any Fd.deep
      · right
        simp only [pureD, e, blkOf, hdeep, Bool.false_eq_true, if_false, if_true, Option.some.injEq] at e1
        subst e1
        simp
      · left
        simp
  rcases hA with hA | hA
  · rw [hA, OrD_none]
    simp only [pureDAs, mapO, e3]
  · rw [hA, OrD_some]
theorem run_rowsAtI (d : Nat) (c : Bool) (l : List Ver) (time : Int) (hs : l.length < 1099511627776) (hsh : ShortVs l) (hfn : ∀ v ∈ l, v.row.vs.length < 4294967296) : ∃ (cl : Bool) (rs : List Row), retP (runD tab noExt (d + 9)) 42 [.sl c 4 (l.map Ver.cells), .int .i64 time] = some [.sl cl 1 (rs.map Row.cells)] ∧ rs.map Row.vs = (rowsAtV l time).map Row.vs := by
  obtain ⟨v, hc, ids, r, o, _⟩ := own_rowsAt d c l time hs hsh hfn
  obtain ⟨q, e, g⟩ := retP_own r o (by decide)
  obtain ⟨cl, rs, rfl, h⟩ := rows_each g
  exact ⟨cl, rs, e, vss_of h⟩
-- find41
theorem run_drawRowsAt (d : Nat) (c : Bool) (bs : List UInt8) : ∃ (l : List Ver) (time : Int), retP (runD tab noExt (d + 10)) 41 [.sl c 1 (cellsOfBytes bs)] = some [.sl false 4 (l.map Ver.cells), .int .i64 time] ∧ GVs 31 l ∧ 0 ≤ time ∧ time ≤ 40 := by
  rw [retP, runD_eq find41 _ _ _ (by simp)]
  simp -implicitDefEqProofs only [go_sem, Nat.reduceBEq, Nat.reduceAdd, Nat.reduceSub, Nat.reduceMul, Nat.reduceLeDiff, Nat.reduceEqDiff, Nat.reduceLT, Int.reduceNeg, Int.reduceAdd, Int.reduceSub, Int.reduceMul, Int.reduceLE, Int.reduceLT, Int.reduceEq, Int.reduceToNat, reduceCtorEq]
  generalize hx : callS (runD tab noExt _) _ 76 _ true = X
  obtain ⟨c', bs', rfl, hb⟩ := ex_open hx rfl
  clear hx
  simp -implicitDefEqProofs only [go_sem, Nat.reduceBEq, Nat.reduceAdd, Nat.reduceSub, Nat.reduceMul, Nat.reduceLeDiff, Nat.reduceEqDiff, Nat.reduceLT, Int.reduceNeg, Int.reduceAdd, Int.reduceSub, Int.reduceMul, Int.reduceLE, Int.reduceLT, Int.reduceEq, Int.reduceToNat, reduceCtorEq]
  generalize hx : callS (runD tab noExt _) _ 107 _ false = X
  obtain ⟨l, time, p', rfl, g1, g2, g3, g4, g5⟩ := ex_versions (hp := []) (t := []) hx (by omega) (by omega) hb rfl rfl
  clear hx
  simp -implicitDefEqProofs (disch := omega) only [go_sem, Nat.reduceBEq, Nat.reduceAdd, Nat.reduceSub, Nat.reduceMul, Nat.reduceLeDiff, Nat.reduceEqDiff, Nat.reduceLT, Int.reduceNeg, Int.reduceAdd, Int.reduceSub, Int.reduceMul, Int.reduceLE, Int.reduceLT, Int.reduceEq, Int.reduceToNat, reduceCtorEq, IntWalk.i64_in]
  generalize hx : callS (runD tab noExt _) _ 104 _ false = X
  obtain ⟨m, rfl, h1, h2⟩ := ex_pick (hp := []) (t := []) hx (by omega) (by omega) hb rfl rfl
  clear hx
  simp -implicitDefEqProofs only [go_sem, Nat.reduceBEq, Nat.reduceAdd, Nat.reduceSub, Nat.reduceMul, Nat.reduceLeDiff, Nat.reduceEqDiff, Nat.reduceLT, Int.reduceNeg, Int.reduceAdd, Int.reduceSub, Int.reduceMul, Int.reduceLE, Int.reduceLT, Int.reduceEq, Int.reduceToNat, reduceCtorEq]
  exact ⟨l, m, rfl, g3, h1, by omega⟩
theorem rowV_next {l : List Ver} {t : Int} (h : ∀ v ∈ l, ¬ v.born = t + 1 ∧ ¬ v.died = t + 1) (k : Int) : rowV l k (t + 1) = rowV l k t := by
  have key : ∀ r : List Ver, (∀ v ∈ r, ¬ v.born = t + 1 ∧ ¬ v.died = t + 1) → r.find? (Ver.at k (t + 1)) = r.find? (Ver.at k t) := by
    intro r
    induction r with
    | nil => intro _; rfl
    | cons v r ih =>
      intro hr
      obtain ⟨h1, h2⟩ := hr v List.mem_cons_self
      have e : Ver.at k (t + 1) v = Ver.at k t v := by
        rw [Bool.eq_iff_iff]
        simp only [Ver.at, Bool.and_eq_true, Bool.or_eq_true, decide_eq_true_eq]
        omega
      rw [List.find?_cons, List.find?_cons, e, ih (fun x hx => hr x (List.mem_cons_of_mem _ hx))]
  unfold rowV rowAt
  rw [key l h]
def cnt1 (l : List Ver) (time : Int) (n : Int) (k : Int) : Int := if (rowAt l k time).isSome then n + 1 else n
theorem cnt_len (l : List Ver) (time : Int) : ∀ (ks : List Int) (n : Int), ks.foldl (cnt1 l time) n = n + ((ks.filterMap fun k => rowV l k time).length : Int)
  | [], n => by simp
  | k :: ks, n => by
    rw [List.foldl_cons, cnt_len l time ks]
    unfold cnt1
    cases h : rowAt l k time with
    | none =>
      have e : rowV l k time = none := by unfold rowV; rw [h]; rfl
      simp [e]
    | some v =>
      have e : rowV l k time = some v.row.vs := by unfold rowV; rw [h]; rfl
      simp [e]
      omega
def turn1 (t : Int) (b : Bool) (v : Ver) : Bool := b || (decide (v.born = t + 1) || decide (v.died = t + 1))
theorem turn_any (t : Int) : ∀ (l : List Ver) (b : Bool), l.foldl (turn1 t) b = (b || l.any fun v => decide (v.born = t + 1) || decide (v.died = t + 1))
  | [], b => by simp
  | v :: r, b => by rw [List.foldl_cons, turn_any t r]; simp [turn1, Bool.or_assoc]
theorem loop_lawRows0 (d : Nat) (c cr : Bool) (l : List Ver) (rs : List Row) (time : Int) (hs : l.length < 1099511627776) (hsh : ShortVs l) (hfn : ∀ v ∈ l, v.row.vs.length < 4294967296) (K : Nat) (hK : (keys5).length ≤ K) (b0 : Int) (hb0 : (fun (i : Nat) (n : Int) => 0 ≤ n ∧ n ≤ i) 0 b0) : LoopS (runD tab noExt (d + 9)) (drawI (runD tab noExt (d + 9))) [3, 4, 5, 6, 7] [3, 4, 5, 6] L9x0 ([] : Heap).length K [(3, .sl c 4 (l.map Ver.cells)), (4, .int .i64 time), (5, .sl cr 1 (rs.map Row.cells)), (6, .int .i64 b0), (7, .int .i64 (0 : Nat))] [] = (some (.exit 0, [(3, .sl c 4 (l.map Ver.cells)), (4, .int .i64 time), (5, .sl cr 1 (rs.map Row.cells)), (6, .int .i64 ((keys5).foldl (cnt1 l time) b0))], []) : Out) ∧ (fun (i : Nat) (n : Int) => 0 ≤ n ∧ n ≤ i) (keys5).length ((keys5).foldl (cnt1 l time) b0) := by
  have key := LoopS_foldI (run := (runD tab noExt (d + 9))) (draw := drawI (runD tab noExt (d + 9))) (live := [3, 4, 5, 6, 7]) (out := [3, 4, 5, 6]) (c := L9x0) (n0 := ([] : Heap).length) (keys5) (cnt1 l time) (fun (i : Nat) (n : Int) => 0 ≤ n ∧ n ≤ i) (fun (i : Nat) (b : Int) => [(3, .sl c 4 (l.map Ver.cells)), (4, .int .i64 time), (5, .sl cr 1 (rs.map Row.cells)), (6, .int .i64 b), (7, .int .i64 (i : Nat))]) (fun (i : Nat) (b : Int) => []) (fun b => (some (.exit 0, [(3, .sl c 4 (l.map Ver.cells)), (4, .int .i64 time), (5, .sl cr 1 (rs.map Row.cells)), (6, .int .i64 b)], []) : Out)) (fun b K hb => ?_) (fun (i : Nat) (x : Int) b K hi hx hb => ?_) K hK b0 hb0
  · simp only [Int.natCast_zero] at key
    exact key
  · rw [LoopS_eq]
    simp -implicitDefEqProofs only [go_sem, Nat.reduceBEq, Nat.reduceAdd, Nat.reduceSub, Nat.reduceMul, Nat.reduceLeDiff, Nat.reduceEqDiff, Nat.reduceLT, Int.reduceNeg, Int.reduceAdd, Int.reduceSub, Int.reduceMul, Int.reduceLE, Int.reduceLT, Int.reduceEq, Int.reduceToNat, reduceCtorEq, evL9x0, B9x0, Int.lt_irrefl, keys5_len]
  · obtain ⟨rfl, hi5⟩ := keys_at hx; obtain ⟨cl, hse⟩ := run_seenI d c l (i : Int) time hs hsh hfn; cases hq : rowAt l (i : Int) time <;> simp only [hq, Option.isSome_none, Option.isSome_some, Option.getD_none, Option.getD_some] at hse
    all_goals
      refine ⟨?_, ?_⟩
      · (unfold cnt1; rw [hq]; simp only [Option.isSome_none, Option.isSome_some, if_true, Bool.false_eq_true, if_false]; omega)
      · rw [LoopS_eq]
        simp -implicitDefEqProofs (disch := first | omega | assumption) only [go_sem, Nat.reduceBEq, Nat.reduceAdd, Nat.reduceSub, Nat.reduceMul, Nat.reduceLeDiff, Nat.reduceEqDiff, Nat.reduceLT, Int.reduceNeg, Int.reduceAdd, Int.reduceSub, Int.reduceMul, Int.reduceLE, Int.reduceLT, Int.reduceEq, Int.reduceToNat, reduceCtorEq, evL9x0, B9x0, hi, hx, IntWalk.i64_in, List.map_append, List.foldl_cons, keys5_len, hse, hi5]
        (simp -implicitDefEqProofs (disch := first | omega | assumption) only [go_sem, Nat.reduceBEq, Nat.reduceAdd, Nat.reduceSub, Nat.reduceMul, Nat.reduceLeDiff, Nat.reduceEqDiff, Nat.reduceLT, Int.reduceNeg, Int.reduceAdd, Int.reduceSub, Int.reduceMul, Int.reduceLE, Int.reduceLT, Int.reduceEq, Int.reduceToNat, reduceCtorEq, cnt1, hq, hse, Option.isSome_none, Option.isSome_some, IntWalk.i64_in])
theorem loop_lawRows1 (d : Nat) (c cr : Bool) (l : List Ver) (rs : List Row) (time n : Int) (ht : 0 ≤ time ∧ time ≤ 100) (hs : l.length < 1099511627776) (K : Nat) (hK : (l).length ≤ K) (b0 : Bool) (hb0 : (fun (i : Nat) (b : Bool) => True) 0 b0) : LoopS (runD tab noExt d) (drawI (runD tab noExt d)) [3, 4, 5, 6, 10, 11] [3, 4, 5, 6, 10] L9x1 ([] : Heap).length K [(3, .sl c 4 (l.map Ver.cells)), (4, .int .i64 time), (5, .sl cr 1 (rs.map Row.cells)), (6, .int .i64 n), (10, .bool b0), (11, .int .i64 (0 : Nat))] [] = (some (.exit 2, [(3, .sl c 4 (l.map Ver.cells)), (4, .int .i64 time), (5, .sl cr 1 (rs.map Row.cells)), (6, .int .i64 n), (10, .bool ((l).foldl (turn1 time) b0))], []) : Out) ∧ (fun (i : Nat) (b : Bool) => True) (l).length ((l).foldl (turn1 time) b0) := by
  have key := LoopS_foldI (run := (runD tab noExt d)) (draw := drawI (runD tab noExt d)) (live := [3, 4, 5, 6, 10, 11]) (out := [3, 4, 5, 6, 10]) (c := L9x1) (n0 := ([] : Heap).length) (l) (turn1 time) (fun (i : Nat) (b : Bool) => True) (fun (i : Nat) (b : Bool) => [(3, .sl c 4 (l.map Ver.cells)), (4, .int .i64 time), (5, .sl cr 1 (rs.map Row.cells)), (6, .int .i64 n), (10, .bool b), (11, .int .i64 (i : Nat))]) (fun (i : Nat) (b : Bool) => []) (fun b => (some (.exit 2, [(3, .sl c 4 (l.map Ver.cells)), (4, .int .i64 time), (5, .sl cr 1 (rs.map Row.cells)), (6, .int .i64 n), (10, .bool b)], []) : Out)) (fun b K hb => ?_) (fun (i : Nat) (x : Ver) b K hi hx hb => ?_) K hK b0 hb0
  · simp only [Int.natCast_zero] at key
    exact key
  · rw [LoopS_eq]
    simp -implicitDefEqProofs only [go_sem, Nat.reduceBEq, Nat.reduceAdd, Nat.reduceSub, Nat.reduceMul, Nat.reduceLeDiff, Nat.reduceEqDiff, Nat.reduceLT, Int.reduceNeg, Int.reduceAdd, Int.reduceSub, Int.reduceMul, Int.reduceLE, Int.reduceLT, Int.reduceEq, Int.reduceToNat, reduceCtorEq, evL9x1, B9x1, Int.lt_irrefl]
  · cases hb1 : b <;> (by_cases hq1 : x.born = time + 1) <;> (by_cases hq2 : x.died = time + 1)
    all_goals
      refine ⟨?_, ?_⟩
      · trivial
      · rw [LoopS_eq]
        simp -implicitDefEqProofs (disch := first | omega | assumption) only [go_sem, Nat.reduceBEq, Nat.reduceAdd, Nat.reduceSub, Nat.reduceMul, Nat.reduceLeDiff, Nat.reduceEqDiff, Nat.reduceLT, Int.reduceNeg, Int.reduceAdd, Int.reduceSub, Int.reduceMul, Int.reduceLE, Int.reduceLT, Int.reduceEq, Int.reduceToNat, reduceCtorEq, evL9x1, B9x1, hi, hx, IntWalk.i64_in, List.map_append, List.foldl_cons, hx, Ver.cells, Row.v]
        (simp -implicitDefEqProofs (disch := first | omega | assumption) only [go_sem, Nat.reduceBEq, Nat.reduceAdd, Nat.reduceSub, Nat.reduceMul, Nat.reduceLeDiff, Nat.reduceEqDiff, Nat.reduceLT, Int.reduceNeg, Int.reduceAdd, Int.reduceSub, Int.reduceMul, Int.reduceLE, Int.reduceLT, Int.reduceEq, Int.reduceToNat, reduceCtorEq, turn1, hx, hq1, hq2, Ver.cells, Row.v, IntWalk.i64_in, Bool.true_or, Bool.false_or])
theorem zip_vss {a b : List Row} (h : a.map Row.vs = b.map Row.vs) : vss a = vss b := h
-- find9
theorem law_RowsAt (l : List UInt8) (hl : l.length ≤ maxLen) : ∃ d h1, runD tab noExt d 9 [.sl false 1 (cellsOfBytes l)] [] = some ([.bool true], h1) := by
  refine ⟨12, ?_⟩
  rw [runD_eq find9 _ _ _ (by simp)]
  obtain ⟨vs, time, hd, hg, ht0, ht1⟩ := run_drawRowsAt 1 false l
  by_cases h1 : (1048576 : Int) < l.length
  · simp -implicitDefEqProofs only [go_sem, Nat.reduceBEq, Nat.reduceAdd, Nat.reduceSub, Nat.reduceMul, Nat.reduceLeDiff, Nat.reduceEqDiff, Nat.reduceLT, Int.reduceNeg, Int.reduceAdd, Int.reduceSub, Int.reduceMul, Int.reduceLE, Int.reduceLT, Int.reduceEq, Int.reduceToNat, reduceCtorEq, ofBytes_len, h1]
    exact ⟨_, rfl⟩
  obtain ⟨s1, s2⟩ := hg.short
  have hln := hg.1
  obtain ⟨cr, rs, hr, er⟩ := run_rowsAtI 2 false vs time (by omega) s1 s2
  obtain ⟨cr2, rs2, hr2, er2⟩ := run_rowsAtI 2 false vs (time + 1) (by omega) s1 s2
  have hsp := run_rowsAtS 4 false vs time (by omega) s1 s2
  have hlen : rs.length ≤ 5 := by
    have := congrArg List.length er
    simp only [List.length_map] at this
    have := rowsAtV_len vs time
    omega
  have hlen2 : rs2.length ≤ 5 := by
    have := congrArg List.length er2
    simp only [List.length_map] at this
    have := rowsAtV_len vs (time + 1)
    omega
  have mem : ∀ (t : Int) (r : List Row), r.map Row.vs = (rowsAtV vs t).map Row.vs → ∀ x ∈ r, x.vs.length < 1099511627776 := by
    intro t r e x hx
    have : x.vs ∈ (rowsAtV vs t).map Row.vs := by rw [← e]; exact List.mem_map_of_mem hx
    obtain ⟨y, hy, e2⟩ := List.mem_map.1 this
    rw [rowsAtV_eq] at hy
    obtain ⟨w, hw, rfl⟩ := List.mem_map.1 hy
    obtain ⟨k, _, hk⟩ := List.mem_filterMap.1 hw
    obtain ⟨v, hv, e3⟩ := rowV_mem hk
    simp only at e2
    rw [← e2, ← e3]
    exact (s1 v hv).1
  have hsame := run_sameRows 9 cr false rs (rowsAtV vs time) (by omega) (mem time rs er)
  have hsame2 := run_sameRows 9 cr2 cr rs2 rs (by omega) (mem _ rs2 er2)
  have e1 : decide (vss rs = vss (rowsAtV vs time)) = true := decide_eq_true er
  rw [e1] at hsame
  have hl0 := (loop_lawRows0 2 false cr vs rs time (by omega) s1 s2 1099511627775 (by simp [keys5]) 0 ⟨by omega, by omega⟩).1
  rw [cnt_len] at hl0
  have ecnt : (0 : Int) + ((keys5.filterMap fun k => rowV vs k time).length : Int) = rs.length := by
    have := congrArg List.length er
    simp only [List.length_map, rowsAtV_eq] at this
    omega
  rw [ecnt] at hl0
  have hl1 := (loop_lawRows1 11 false cr vs rs time rs.length ⟨ht0, by omega⟩ (by omega) 1099511627775 (by omega) false trivial).1
  rw [turn_any, Bool.false_or] at hl1
  have hal := run_alive 6
  simp only [Int.natCast_zero, List.length_nil, Nat.reduceAdd] at hl0 hl1
  cases hany : (vs.any fun v => decide (v.born = time + 1) || decide (v.died = time + 1))
  · rw [hany] at hl1
    have hno : ∀ v ∈ vs, ¬ v.born = time + 1 ∧ ¬ v.died = time + 1 := by
      intro v hv
      rw [List.any_eq_false] at hany
      have := hany v hv
      simp at this
      exact this
    have e2 : decide (vss rs2 = vss rs) = true := by
      refine decide_eq_true ?_
      unfold vss
      rw [er2, er, rowsAtV_eq, rowsAtV_eq]
      simp only [rowV_next hno]
    rw [e2] at hsame2
    simp -implicitDefEqProofs (disch := omega) only [go_sem, Nat.reduceBEq, Nat.reduceAdd, Nat.reduceSub, Nat.reduceMul, Nat.reduceLeDiff, Nat.reduceEqDiff, Nat.reduceLT, Int.reduceNeg, Int.reduceAdd, Int.reduceSub, Int.reduceMul, Int.reduceLE, Int.reduceLT, Int.reduceEq, Int.reduceToNat, reduceCtorEq, ofBytes_len, h1, hd, hr, hsp, hsame]
    rw [hl0]
    simp -implicitDefEqProofs (disch := omega) only [go_sem, Nat.reduceBEq, Nat.reduceAdd, Nat.reduceSub, Nat.reduceMul, Nat.reduceLeDiff, Nat.reduceEqDiff, Nat.reduceLT, Int.reduceNeg, Int.reduceAdd, Int.reduceSub, Int.reduceMul, Int.reduceLE, Int.reduceLT, Int.reduceEq, Int.reduceToNat, reduceCtorEq]
    rw [hl1]
    simp -implicitDefEqProofs (disch := omega) only [go_sem, Nat.reduceBEq, Nat.reduceAdd, Nat.reduceSub, Nat.reduceMul, Nat.reduceLeDiff, Nat.reduceEqDiff, Nat.reduceLT, Int.reduceNeg, Int.reduceAdd, Int.reduceSub, Int.reduceMul, Int.reduceLE, Int.reduceLT, Int.reduceEq, Int.reduceToNat, reduceCtorEq, hr2, hsame2, hal, IntWalk.i64_in]
    exact ⟨_, rfl⟩
  · rw [hany] at hl1
    simp -implicitDefEqProofs (disch := omega) only [go_sem, Nat.reduceBEq, Nat.reduceAdd, Nat.reduceSub, Nat.reduceMul, Nat.reduceLeDiff, Nat.reduceEqDiff, Nat.reduceLT, Int.reduceNeg, Int.reduceAdd, Int.reduceSub, Int.reduceMul, Int.reduceLE, Int.reduceLT, Int.reduceEq, Int.reduceToNat, reduceCtorEq, ofBytes_len, h1, hd, hr, hsp, hsame]
    rw [hl0]
    simp -implicitDefEqProofs (disch := omega) only [go_sem, Nat.reduceBEq, Nat.reduceAdd, Nat.reduceSub, Nat.reduceMul, Nat.reduceLeDiff, Nat.reduceEqDiff, Nat.reduceLT, Int.reduceNeg, Int.reduceAdd, Int.reduceSub, Int.reduceMul, Int.reduceLE, Int.reduceLT, Int.reduceEq, Int.reduceToNat, reduceCtorEq]
    rw [hl1]
    simp -implicitDefEqProofs (disch := omega) only [go_sem, Nat.reduceBEq, Nat.reduceAdd, Nat.reduceSub, Nat.reduceMul, Nat.reduceLeDiff, Nat.reduceEqDiff, Nat.reduceLT, Int.reduceNeg, Int.reduceAdd, Int.reduceSub, Int.reduceMul, Int.reduceLE, Int.reduceLT, Int.reduceEq, Int.reduceToNat, reduceCtorEq, hal]
    exact ⟨_, rfl⟩
end Go.Proofs.Ytnnjpiepoeknnaa.PE
/- A list of bytes that comes in, as the evaluator reads it. -/
set_option linter.unusedVariables false
set_option linter.unusedSimpArgs false
namespace Go.Proofs.Ytnnjpiepoeknnaa.PE
open Go.RowKit

def IsRow (w : World) (a : Option Addr) (len cap : Nat) : Prop :=
  (a = none ∧ len = 0 ∧ cap = 0) ∨
  ∃ (x : Addr) (zs : List Int), a = some x ∧ len ≤ cap ∧ cap ≤ maxLen ∧ zs.length = cap ∧ (∀ i, i < zs.length → w.cell? (x.add i) = some (.int .u8 (zs.getD i 0))) ∧ ∀ n ∈ zs, (Lit.int .u8 n).wf = true

theorem IsRow.rep {w : World} {a : Option Addr} {len cap : Nat} (h : IsRow w a len cap) : ∃ l : List UInt8, l.length ≤ maxLen ∧ RepA w (fun b => b < w.heap.size) (.slice a len cap) (.sl false 1 (cellsOfBytes l)) := by
  rcases h with ⟨rfl, rfl, rfl⟩ | ⟨x, zs, rfl, h1, h2, h3, h4, h5⟩
  · exact ⟨[], Nat.zero_le _, rep_empty (by decide) (fun h => by cases h)⟩
  · have hb : ∀ i, i < zs.length → 0 ≤ zs.getD i 0 ∧ zs.getD i 0 < 256 := fun i hi => by
      have := h5 (zs.getD i 0) (by rw [List.getD_eq_getElem?_getD, List.getElem?_eq_getElem hi]; exact List.getElem_mem hi)
      simp only [Lit.wf, decide_eq_true_eq] at this
      have h1 : IntKind.u8.min = 0 := rfl
      have h2 : IntKind.u8.max = 255 := rfl
      simp only [Bool.and_eq_true, decide_eq_true_eq, h1, h2] at this
      omega
    refine ⟨(zs.take len).map fun z => UInt8.ofNat z.toNat, by simp; omega, ?_⟩
    refine Rep.sl (some x) len cap false _ 1 (fun j _ => .int .u8 (zs.getD j 0)) (by simp [cellsOfBytes]; omega) h1 (fun h => by cases h) (by decide) (fun y hy => ?_) (fun hn => ?_) (fun j c y z hy hz => ?_)
    · simp only [cellsOfBytes, List.mem_map] at hy
      obtain ⟨b, _, rfl⟩ := hy
      rfl
    · obtain ⟨g, o, sp⟩ := x
      have h0 := h4 0 (by omega)
      have hsp : sp = none := by
        simp only [Addr.add, if_true] at h0
        unfold World.cell? at h0
        cases sp with
        | none => rfl
        | some s => simp at h0; split at h0 <;> cases h0
      subst hsp
      refine ⟨g, o, rfl, ?_, fun j c y z hy hz => ?_⟩
      · simp only [Addr.add, if_true] at h0
        unfold World.cell? at h0
        rcases Nat.lt_or_ge g w.heap.size with hg | hg
        · exact hg
        · rw [Array.getElem?_eq_none hg] at h0; cases h0
      · have hj : j < ((zs.take len).map fun z => UInt8.ofNat z.toNat).length := by
          have := (List.getElem?_eq_some_iff.1 hy).1
          simpa [cellsOfBytes] using this
        simp only [List.length_map, List.length_take] at hj
        simp only [cellsOfBytes, List.getElem?_map] at hy
        obtain ⟨b, _, rfl⟩ := Option.map_eq_some_iff.1 hy
        have hc : c = 0 := by
          have := (List.getElem?_eq_some_iff.1 hz).1
          simp at this
          omega
        subst hc
        have := h4 j (by omega)
        rw [add0] at this
        simpa using this
    · have hj : j < zs.length := by
        have := (List.getElem?_eq_some_iff.1 hy).1
        simp [cellsOfBytes] at this
        omega
      have hjl : j < len := by
        have := (List.getElem?_eq_some_iff.1 hy).1
        simp [cellsOfBytes] at this
        omega
      have hbj := hb j hj
      have hc : c = 0 := by
        simp only [cellsOfBytes, List.getElem?_map] at hy
        obtain ⟨b, _, rfl⟩ := Option.map_eq_some_iff.1 hy
        have := (List.getElem?_eq_some_iff.1 hz).1
        simp at this
        omega
      subst hc
      rw [List.getD_eq_getElem?_getD, List.getElem?_eq_getElem hj] at hbj
      simp [cellsOfBytes, List.getElem?_take_of_lt hjl, List.getElem?_eq_getElem hj] at hy
      subst hy
      simp at hz
      subst hz
      simp only [Option.getD_some] at hbj
      have e : ((UInt8.ofNat (zs[j]).toNat).toNat : Int) = zs[j] := by
        simp
        omega
      simp only [List.getD_eq_getElem?_getD, List.getElem?_eq_getElem hj, Option.getD_some]
      rw [show max zs[j] 0 % 256 = zs[j] by omega]
      exact .int _ _
end Go.Proofs.Ytnnjpiepoeknnaa.PE
