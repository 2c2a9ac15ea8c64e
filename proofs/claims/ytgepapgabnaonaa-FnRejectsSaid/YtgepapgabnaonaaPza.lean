/- What is found of an expression where columns are none: the program's. -/
import Derived.Test.YtgepapgabnaonaaPz1
set_option linter.unusedSimpArgs false
set_option linter.unusedVariables false
set_option maxHeartbeats 4000000
namespace Go.Proofs.Ytgepapgabnaonaa.PE
open Go.RowKit

/-- What is found of a value. -/
structure Fct where
  no : Bool
  notT : Bool
  notF : Bool
  deriving DecidableEq
def Fct.z : Fct := ⟨false, false, false⟩
def Fct.cells (f : Fct) : List V := [.bool f.no, .bool f.notT, .bool f.notF]
def fct2 (k : Int) (a b : Fct) : Fct :=
  if k = 3 ∨ k = 4 then ⟨a.no || b.no, a.no || b.no, a.no || b.no⟩
  else if k = 5 then ⟨(a.notT || b.notT) && (a.notF && b.notF), a.notT || b.notT, a.notF && b.notF⟩
  else ⟨(a.notT && b.notT) && (a.notF || b.notF), a.notT && b.notT, a.notF || b.notF⟩
def fct1 (k : Int) (a : Fct) : Fct := if k = 7 then ⟨a.no, a.notF, a.notT⟩ else ⟨false, false, a.no⟩
def fct0 (k n : Int) (v : Val) (fr : Int) : Fct := if k = 1 then ⟨false, decide (v = valT 0), decide (v = valT 1)⟩ else ⟨decide (fr ≤ n), decide (fr ≤ n), decide (fr ≤ n)⟩

-- find90
theorem run_find2 (d : Nat) (py pz : Int) (pvk pvn : Int) (pvq : ByteArray) (c' : Bool) (fr : Int) (a b : Fct) (h : py = 3 ∨ py = 4 ∨ py = 5 ∨ py = 6) :
    retP (runD tab noExt (d + 3)) 90 [.agg [.int .i64 py, .int .i64 pz, .int .i64 pvk, .int .i64 pvn, .str pvq], .sl c' 3 [Fct.cells a, Fct.cells b], .int .i64 fr] = some [.agg (Fct.cells (fct2 py a b))] := by
  rw [retP, runD_eq find90 _ _ _ (by simp)]
  obtain ⟨a1, a2, a3⟩ := a
  obtain ⟨b1, b2, b3⟩ := b
  rcases h with rfl | rfl | rfl | rfl
  · cases a1 <;> cases b1 <;> simp -implicitDefEqProofs (disch := omega) only [go_sem, Nat.sub_zero, List.drop_zero, eq_self, Option.getD_none, Option.getD_some, Option.isSome_none, Option.isSome_some, Option.isNone_none, Option.isNone_some, Bool.or_false, Bool.false_or, Bool.and_false, Bool.false_and, Int.le_refl, Nat.le_refl, List.length_map, List.getElem?_map, Int.natCast_add, Int.natCast_one, List.append_assoc, List.length_append, Nat.add_assoc, and_self, and_true, true_and, and_false, false_and, or_true, true_or, or_false, false_or, not_true_eq_false, not_false_eq_true, Int.cast_ofNat_Int, Int.natCast_nonneg, Int.toNat_natCast, ne_eq, not_true_eq_false, not_false_eq_true, Nat.reduceBEq, Nat.reduceAdd, Nat.reduceSub, Nat.reduceMul, Nat.reduceLeDiff, Nat.reduceEqDiff, Nat.reduceLT, Int.reduceNeg, Int.reduceAdd, Int.reduceSub, Int.reduceMul, Int.reduceLE, Int.reduceLT, Int.reduceEq, Int.reduceToNat, reduceCtorEq, Fct.cells, Int.toNat_zero, Int.toNat_one] <;> rfl
  · cases a1 <;> cases b1 <;> simp -implicitDefEqProofs (disch := omega) only [go_sem, Nat.sub_zero, List.drop_zero, eq_self, Option.getD_none, Option.getD_some, Option.isSome_none, Option.isSome_some, Option.isNone_none, Option.isNone_some, Bool.or_false, Bool.false_or, Bool.and_false, Bool.false_and, Int.le_refl, Nat.le_refl, List.length_map, List.getElem?_map, Int.natCast_add, Int.natCast_one, List.append_assoc, List.length_append, Nat.add_assoc, and_self, and_true, true_and, and_false, false_and, or_true, true_or, or_false, false_or, not_true_eq_false, not_false_eq_true, Int.cast_ofNat_Int, Int.natCast_nonneg, Int.toNat_natCast, ne_eq, not_true_eq_false, not_false_eq_true, Nat.reduceBEq, Nat.reduceAdd, Nat.reduceSub, Nat.reduceMul, Nat.reduceLeDiff, Nat.reduceEqDiff, Nat.reduceLT, Int.reduceNeg, Int.reduceAdd, Int.reduceSub, Int.reduceMul, Int.reduceLE, Int.reduceLT, Int.reduceEq, Int.reduceToNat, reduceCtorEq, Fct.cells, Int.toNat_zero, Int.toNat_one] <;> rfl
  · cases a2 <;> cases a3 <;> cases b2 <;> cases b3 <;> simp -implicitDefEqProofs (disch := omega) only [go_sem, Nat.sub_zero, List.drop_zero, eq_self, Option.getD_none, Option.getD_some, Option.isSome_none, Option.isSome_some, Option.isNone_none, Option.isNone_some, Bool.or_false, Bool.false_or, Bool.and_false, Bool.false_and, Int.le_refl, Nat.le_refl, List.length_map, List.getElem?_map, Int.natCast_add, Int.natCast_one, List.append_assoc, List.length_append, Nat.add_assoc, and_self, and_true, true_and, and_false, false_and, or_true, true_or, or_false, false_or, not_true_eq_false, not_false_eq_true, Int.cast_ofNat_Int, Int.natCast_nonneg, Int.toNat_natCast, ne_eq, not_true_eq_false, not_false_eq_true, Nat.reduceBEq, Nat.reduceAdd, Nat.reduceSub, Nat.reduceMul, Nat.reduceLeDiff, Nat.reduceEqDiff, Nat.reduceLT, Int.reduceNeg, Int.reduceAdd, Int.reduceSub, Int.reduceMul, Int.reduceLE, Int.reduceLT, Int.reduceEq, Int.reduceToNat, reduceCtorEq, evC_draw, evD90x1, E90x1, Fct.cells, Int.toNat_zero, Int.toNat_one] <;> rfl
  · cases a2 <;> cases a3 <;> cases b2 <;> cases b3 <;> simp -implicitDefEqProofs (disch := omega) only [go_sem, Nat.sub_zero, List.drop_zero, eq_self, Option.getD_none, Option.getD_some, Option.isSome_none, Option.isSome_some, Option.isNone_none, Option.isNone_some, Bool.or_false, Bool.false_or, Bool.and_false, Bool.false_and, Int.le_refl, Nat.le_refl, List.length_map, List.getElem?_map, Int.natCast_add, Int.natCast_one, List.append_assoc, List.length_append, Nat.add_assoc, and_self, and_true, true_and, and_false, false_and, or_true, true_or, or_false, false_or, not_true_eq_false, not_false_eq_true, Int.cast_ofNat_Int, Int.natCast_nonneg, Int.toNat_natCast, ne_eq, not_true_eq_false, not_false_eq_true, Nat.reduceBEq, Nat.reduceAdd, Nat.reduceSub, Nat.reduceMul, Nat.reduceLeDiff, Nat.reduceEqDiff, Nat.reduceLT, Int.reduceNeg, Int.reduceAdd, Int.reduceSub, Int.reduceMul, Int.reduceLE, Int.reduceLT, Int.reduceEq, Int.reduceToNat, reduceCtorEq, evC_draw, evD90x2, E90x2, Fct.cells, Int.toNat_zero, Int.toNat_one] <;> rfl
theorem run_find1 (d : Nat) (py pz : Int) (pvk pvn : Int) (pvq : ByteArray) (c' : Bool) (fr : Int) (a : Fct) (h : py = 7 ∨ py = 8) :
    retP (runD tab noExt (d + 3)) 90 [.agg [.int .i64 py, .int .i64 pz, .int .i64 pvk, .int .i64 pvn, .str pvq], .sl c' 3 [Fct.cells a], .int .i64 fr] = some [.agg (Fct.cells (fct1 py a))] := by
  rw [retP, runD_eq find90 _ _ _ (by simp)]
  rcases h with rfl | rfl
  · simp -implicitDefEqProofs (disch := omega) only [go_sem, Nat.sub_zero, List.drop_zero, eq_self, Option.getD_none, Option.getD_some, Option.isSome_none, Option.isSome_some, Option.isNone_none, Option.isNone_some, Bool.or_false, Bool.false_or, Bool.and_false, Bool.false_and, Int.le_refl, Nat.le_refl, List.length_map, List.getElem?_map, Int.natCast_add, Int.natCast_one, List.append_assoc, List.length_append, Nat.add_assoc, and_self, and_true, true_and, and_false, false_and, or_true, true_or, or_false, false_or, not_true_eq_false, not_false_eq_true, Int.cast_ofNat_Int, Int.natCast_nonneg, Int.toNat_natCast, ne_eq, not_true_eq_false, not_false_eq_true, Nat.reduceBEq, Nat.reduceAdd, Nat.reduceSub, Nat.reduceMul, Nat.reduceLeDiff, Nat.reduceEqDiff, Nat.reduceLT, Int.reduceNeg, Int.reduceAdd, Int.reduceSub, Int.reduceMul, Int.reduceLE, Int.reduceLT, Int.reduceEq, Int.reduceToNat, reduceCtorEq, evC_draw, evD90x3, E90x3, Fct.cells, Int.toNat_zero, Int.toNat_one]
    rfl
  · simp -implicitDefEqProofs (disch := omega) only [go_sem, Nat.sub_zero, List.drop_zero, eq_self, Option.getD_none, Option.getD_some, Option.isSome_none, Option.isSome_some, Option.isNone_none, Option.isNone_some, Bool.or_false, Bool.false_or, Bool.and_false, Bool.false_and, Int.le_refl, Nat.le_refl, List.length_map, List.getElem?_map, Int.natCast_add, Int.natCast_one, List.append_assoc, List.length_append, Nat.add_assoc, and_self, and_true, true_and, and_false, false_and, or_true, true_or, or_false, false_or, not_true_eq_false, not_false_eq_true, Int.cast_ofNat_Int, Int.natCast_nonneg, Int.toNat_natCast, ne_eq, not_true_eq_false, not_false_eq_true, Nat.reduceBEq, Nat.reduceAdd, Nat.reduceSub, Nat.reduceMul, Nat.reduceLeDiff, Nat.reduceEqDiff, Nat.reduceLT, Int.reduceNeg, Int.reduceAdd, Int.reduceSub, Int.reduceMul, Int.reduceLE, Int.reduceLT, Int.reduceEq, Int.reduceToNat, reduceCtorEq, Fct.cells, Int.toNat_zero, Int.toNat_one]
    rfl
theorem run_find0 (d : Nat) (py pz : Int) (pvk pvn : Int) (pvq : ByteArray) (c' : Bool) (fr : Int) (ins : List (List V)) (h : py = 1 ∨ py = 2) :
    retP (runD tab noExt (d + 3)) 90 [.agg [.int .i64 py, .int .i64 pz, .int .i64 pvk, .int .i64 pvn, .str pvq], .sl c' 3 ins, .int .i64 fr] = some [.agg (Fct.cells (fct0 py pz (⟨pvk, pvn, pvq⟩ : Val) fr))] := by
  rw [retP, runD_eq find90 _ _ _ (by simp)]
  have z0 : valT 0 = ⟨3, 0, ⟨#[]⟩⟩ := rfl
  have z1 : valT 1 = ⟨3, 1, ⟨#[]⟩⟩ := rfl
  rcases h with rfl | rfl
  · simp -implicitDefEqProofs (disch := omega) only [go_sem, Nat.sub_zero, List.drop_zero, eq_self, Option.getD_none, Option.getD_some, Option.isSome_none, Option.isSome_some, Option.isNone_none, Option.isNone_some, Bool.or_false, Bool.false_or, Bool.and_false, Bool.false_and, Int.le_refl, Nat.le_refl, List.length_map, List.getElem?_map, Int.natCast_add, Int.natCast_one, List.append_assoc, List.length_append, Nat.add_assoc, and_self, and_true, true_and, and_false, false_and, or_true, true_or, or_false, false_or, not_true_eq_false, not_false_eq_true, Int.cast_ofNat_Int, Int.natCast_nonneg, Int.toNat_natCast, ne_eq, not_true_eq_false, not_false_eq_true, Nat.reduceBEq, Nat.reduceAdd, Nat.reduceSub, Nat.reduceMul, Nat.reduceLeDiff, Nat.reduceEqDiff, Nat.reduceLT, Int.reduceNeg, Int.reduceAdd, Int.reduceSub, Int.reduceMul, Int.reduceLE, Int.reduceLT, Int.reduceEq, Int.reduceToNat, reduceCtorEq, evC_draw, evD90x0, E90x0, run_ValueOf, z0, z1, Val.cells]
    simp [fct0, Fct.cells, z0, z1, Val.mk.injEq, Bool.and_assoc]
  · simp -implicitDefEqProofs (disch := omega) only [go_sem, Nat.sub_zero, List.drop_zero, eq_self, Option.getD_none, Option.getD_some, Option.isSome_none, Option.isSome_some, Option.isNone_none, Option.isNone_some, Bool.or_false, Bool.false_or, Bool.and_false, Bool.false_and, Int.le_refl, Nat.le_refl, List.length_map, List.getElem?_map, Int.natCast_add, Int.natCast_one, List.append_assoc, List.length_append, Nat.add_assoc, and_self, and_true, true_and, and_false, false_and, or_true, true_or, or_false, false_or, not_true_eq_false, not_false_eq_true, Int.cast_ofNat_Int, Int.natCast_nonneg, Int.toNat_natCast, ne_eq, not_true_eq_false, not_false_eq_true, Nat.reduceBEq, Nat.reduceAdd, Nat.reduceSub, Nat.reduceMul, Nat.reduceLeDiff, Nat.reduceEqDiff, Nat.reduceLT, Int.reduceNeg, Int.reduceAdd, Int.reduceSub, Int.reduceMul, Int.reduceLE, Int.reduceLT, Int.reduceEq, Int.reduceToNat, reduceCtorEq]
    simp [fct0, Fct.cells]

/-- What is found behind a part. -/
def fS (fr : Int) (st : List Fct) (p : Prt) : Option (List Fct) :=
  if p.kind = 3 ∨ p.kind = 4 ∨ p.kind = 5 ∨ p.kind = 6 then (if 2 ≤ st.length then some (st.take (st.length - 2) ++ [fct2 p.kind (st.getD (st.length - 2) Fct.z) (st.getD (st.length - 1) Fct.z)]) else none)
  else if p.kind = 7 ∨ p.kind = 8 then (if 1 ≤ st.length then some (st.take (st.length - 1) ++ [fct1 p.kind (st.getD (st.length - 1) Fct.z)]) else none)
  else if p.kind = 1 ∨ p.kind = 2 then some (st ++ [fct0 p.kind p.n p.v fr]) else none
theorem run_fS (d : Nat) (fr : Int) (st l : List Fct) (p : Prt) (h : fS fr st p = some l) :
    p.takes.toNat ≤ st.length ∧ ∃ v, l = st.take (st.length - p.takes.toNat) ++ [v] ∧
      retP (runD tab noExt (d + 3)) 90 [.agg [.int .i64 p.kind, .int .i64 p.n, .int .i64 p.v.kind, .int .i64 p.v.n, .str p.v.s], .sl false 3 ((st.map Fct.cells).drop (st.length - p.takes.toNat)), .int .i64 fr] = some [.agg (Fct.cells v)] := by
  unfold fS at h
  split at h
  · rename_i hk
    split at h
    · rename_i hl
      injection h with h
      have ht : p.takes = 2 := by unfold Prt.takes; rcases hk with hk | hk | hk | hk <;> simp [hk]
      rw [ht]
      refine ⟨hl, _, h.symm, ?_⟩
      rw [← List.map_drop, show st.length - (2 : Int).toNat = st.length - 2 from rfl, drop_two st Fct.z hl]
      exact run_find2 d p.kind p.n p.v.kind p.v.n p.v.s false fr _ _ hk
    · cases h
  · split at h
    · rename_i hk
      split at h
      · rename_i hl
        injection h with h
        have ht : p.takes = 1 := by unfold Prt.takes; rcases hk with hk | hk <;> simp [hk]
        rw [ht]
        refine ⟨hl, _, h.symm, ?_⟩
        rw [← List.map_drop, show st.length - (1 : Int).toNat = st.length - 1 from rfl, drop_one st Fct.z hl]
        exact run_find1 d p.kind p.n p.v.kind p.v.n p.v.s false fr _ hk
      · cases h
    · split at h
      · rename_i hk
        injection h with h
        have ht : p.takes = 0 := by unfold Prt.takes; rcases hk with hk | hk <;> simp [hk]
        rw [ht]
        refine ⟨Nat.zero_le _, fct0 p.kind p.n p.v fr, ?_, run_find0 d p.kind p.n p.v.kind p.v.n p.v.s false fr _ hk⟩
        rw [← h]
        simp
      · cases h
theorem loop_rejI (d : Nat) (c' : Bool) (fr : Int) (ps : List Prt) (hp : ps.length ≤ 1000) : ∀ (rest : List Prt) (i : Nat), ps.drop i = rest → i ≤ ps.length → ∀ (K stm : Nat) (st l : List Fct), rest.length ≤ K → st.length ≤ i → runStp (fS fr) st rest = some l →
    ∃ stm', LoopS (runD tab noExt (d + 3)) (drawI (runD tab noExt (d + 3))) [2, 7, 16, 17, 18] [7] L39x0 1 K [(2, .int .i64 fr), (7, .ref 0 stm 0 st.length false), (16, .sl c' 5 (ps.map Prt.cells)), (17, .int .i64 (ps.length : Int)), (18, .int .i64 (i : Int))] [.rows stm 3 (st.map Fct.cells)] =
      (some (.exit 0, [(7, .ref 0 stm' 0 l.length false)], [.rows stm' 3 (l.map Fct.cells)]) : Out) := by
  refine drop_to ps (fun i rest => ∀ (K stm : Nat) (st l : List Fct), rest.length ≤ K → st.length ≤ i → runStp (fS fr) st rest = some l →
    ∃ stm', LoopS (runD tab noExt (d + 3)) (drawI (runD tab noExt (d + 3))) [2, 7, 16, 17, 18] [7] L39x0 1 K [(2, .int .i64 fr), (7, .ref 0 stm 0 st.length false), (16, .sl c' 5 (ps.map Prt.cells)), (17, .int .i64 (ps.length : Int)), (18, .int .i64 (i : Int))] [.rows stm 3 (st.map Fct.cells)] =
      (some (.exit 0, [(7, .ref 0 stm' 0 l.length false)], [.rows stm' 3 (l.map Fct.cells)]) : Out)) ?_ ?_
  · intro K stm st l hK hst hr
    simp only [runStp, Option.some.injEq] at hr
    subst hr
    rw [LoopS_eq]
    simp -implicitDefEqProofs only [go_sem, Nat.sub_zero, List.drop_zero, eq_self, Option.getD_none, Option.getD_some, Option.isSome_none, Option.isSome_some, Option.isNone_none, Option.isNone_some, Bool.or_false, Bool.false_or, Bool.and_false, Bool.false_and, Int.le_refl, Nat.le_refl, List.length_map, List.getElem?_map, Int.natCast_add, Int.natCast_one, List.append_assoc, List.length_append, Nat.add_assoc, and_self, and_true, true_and, and_false, false_and, or_true, true_or, or_false, false_or, not_true_eq_false, not_false_eq_true, Int.cast_ofNat_Int, Int.natCast_nonneg, Int.toNat_natCast, ne_eq, not_true_eq_false, not_false_eq_true, Nat.reduceBEq, Nat.reduceAdd, Nat.reduceSub, Nat.reduceMul, Nat.reduceLeDiff, Nat.reduceEqDiff, Nat.reduceLT, Int.reduceNeg, Int.reduceAdd, Int.reduceSub, Int.reduceMul, Int.reduceLE, Int.reduceLT, Int.reduceEq, Int.reduceToNat, reduceCtorEq, evL39x0, B39x0, Int.lt_irrefl]
    exact ⟨stm, rfl⟩
  · intro i x r hi hx ih K stm st l hK hst hr
    have hi' : (i : Int) < ps.length := by omega
    obtain ⟨K, rfl⟩ : ∃ K', K = K' + 1 := ⟨K - 1, by simp at hK; omega⟩
    obtain ⟨t1, t2⟩ := takes_in' x
    simp only [runStp] at hr
    split at hr
    · rename_i st' hs
      obtain ⟨h1, v, h2, hval⟩ := run_fS d fr st st' x hs
      have hd : (st.length : Int) - x.takes = ((st.length - x.takes.toNat : Nat) : Int) := by omega
      have hle : ((st.length - x.takes.toNat : Nat) : Int) ≤ (st.length : Int) := by omega
      have htk : ((st.map Fct.cells).drop (st.length - x.takes.toNat)).take (st.length - (st.length - x.takes.toNat)) = (st.map Fct.cells).drop (st.length - x.takes.toNat) := List.take_of_length_le (by simp)
      generalize hAe : st.length - x.takes.toNat = A at *
      have hA : A ≤ st.length := by omega
      have h3 : A + 1 < 4294967296 := by omega
      have h4 : st.length + 1 < 4294967296 := by omega
      have hlen : st'.length = A + 1 := by rw [h2]; simp; omega
      have hmap : st'.map Fct.cells = (st.map Fct.cells).take A ++ [Fct.cells v] := by rw [h2]; simp [List.map_take]
      obtain ⟨stm', ih'⟩ := ih K (stm + 1) st' l (by simp at hK; omega) (by omega) hr
      rw [hlen, hmap] at ih'
      simp only [Int.natCast_add, Int.natCast_one, Fct.cells] at ih' hval
      refine ⟨stm', ?_⟩
      by_cases hAl : A = st.length
      · have hAl' : (A = st.length) = True := eq_true hAl
        have htk2 : (st.map Fct.cells).take A = st.map Fct.cells := List.take_of_length_le (by simp; omega)
        rw [htk2] at ih'
        rw [← ih', LoopS_eq]
        simp -implicitDefEqProofs (disch := first | omega | assumption) only [go_sem, Nat.sub_zero, List.drop_zero, eq_self, Option.getD_none, Option.getD_some, Option.isSome_none, Option.isSome_some, Option.isNone_none, Option.isNone_some, Bool.or_false, Bool.false_or, Bool.and_false, Bool.false_and, Int.le_refl, Nat.le_refl, List.length_map, List.getElem?_map, Int.natCast_add, Int.natCast_one, List.append_assoc, List.length_append, Nat.add_assoc, and_self, and_true, true_and, and_false, false_and, or_true, true_or, or_false, false_or, not_true_eq_false, not_false_eq_true, Int.cast_ofNat_Int, Int.natCast_nonneg, Int.toNat_natCast, ne_eq, not_true_eq_false, not_false_eq_true, Nat.reduceBEq, Nat.reduceAdd, Nat.reduceSub, Nat.reduceMul, Nat.reduceLeDiff, Nat.reduceEqDiff, Nat.reduceLT, Int.reduceNeg, Int.reduceAdd, Int.reduceSub, Int.reduceMul, Int.reduceLE, Int.reduceLT, Int.reduceEq, Int.reduceToNat, reduceCtorEq, evL39x0, B39x0, evC_draw, evD39x0, E39x0, evC_draw, evD39x1, E39x1, hi', hx, Prt.cells, run_takes, Val.eta, Prt.eta, IntWalk.i64_in, hd, hle, htk, hval, Fct.cells, h3, hAl', if_true, if_false]
      · have hAl' : (A = st.length) = False := eq_false hAl
        rw [← ih', LoopS_eq]
        simp -implicitDefEqProofs (disch := first | omega | assumption) only [go_sem, Nat.sub_zero, List.drop_zero, eq_self, Option.getD_none, Option.getD_some, Option.isSome_none, Option.isSome_some, Option.isNone_none, Option.isNone_some, Bool.or_false, Bool.false_or, Bool.and_false, Bool.false_and, Int.le_refl, Nat.le_refl, List.length_map, List.getElem?_map, Int.natCast_add, Int.natCast_one, List.append_assoc, List.length_append, Nat.add_assoc, and_self, and_true, true_and, and_false, false_and, or_true, true_or, or_false, false_or, not_true_eq_false, not_false_eq_true, Int.cast_ofNat_Int, Int.natCast_nonneg, Int.toNat_natCast, ne_eq, not_true_eq_false, not_false_eq_true, Nat.reduceBEq, Nat.reduceAdd, Nat.reduceSub, Nat.reduceMul, Nat.reduceLeDiff, Nat.reduceEqDiff, Nat.reduceLT, Int.reduceNeg, Int.reduceAdd, Int.reduceSub, Int.reduceMul, Int.reduceLE, Int.reduceLT, Int.reduceEq, Int.reduceToNat, reduceCtorEq, evL39x0, B39x0, evC_draw, evD39x0, E39x0, evC_draw, evD39x1, E39x1, hi', hx, Prt.cells, run_takes, Val.eta, Prt.eta, IntWalk.i64_in, hd, hle, htk, hval, Fct.cells, h3, hAl', if_true, if_false]
    · cases hr

/-- Kinds that can be put down are facts that can be. -/
theorem fS_of {cs : List Col} {p : Prt} {ks ks' : List Int} {st : List Fct} (fr : Int) (hl : st.length = ks.length) (h : stpI cs ks p = some ks') : ∃ st', fS fr st p = some st' ∧ st'.length = ks'.length := by
  unfold stpI at h
  split at h
  · rename_i ht
    split at h
    · cases h
    · rename_i hle
      split at h
      · injection h with h
        have hlen := congrArg List.length h
        simp only [List.length_append, List.length_take, List.length_singleton] at hlen
        have hin := takes_in p
        by_cases hk2 : p.kind = 3 ∨ p.kind = 4 ∨ p.kind = 5 ∨ p.kind = 6
        · have htk : p.takes = 2 := by unfold Prt.takes; rcases hk2 with hk | hk | hk | hk <;> simp [hk]
          rw [htk] at hle hlen
          have : 2 ≤ st.length := by omega
          refine ⟨_, by unfold fS; rw [if_pos hk2, if_pos this], ?_⟩
          simp
          simp at hlen
          omega
        · by_cases hk1 : p.kind = 7 ∨ p.kind = 8
          · have htk : p.takes = 1 := by unfold Prt.takes; rcases hk1 with hk | hk <;> simp [hk]
            rw [htk] at hle hlen
            have : 1 ≤ st.length := by omega
            refine ⟨_, by unfold fS; rw [if_neg hk2, if_pos hk1, if_pos this], ?_⟩
            simp
            simp at hlen
            omega
          · have htk : p.takes = 0 := by unfold Prt.takes; grind
            rw [htk] at hle hlen
            have hk0 : p.kind = 1 ∨ p.kind = 2 := by
              by_cases k1 : p.kind = 1
              · exact .inl k1
              · by_cases k2 : p.kind = 2
                · exact .inr k2
                · exfalso
                  unfold Prt.tells at ht
                  grind
            refine ⟨_, by unfold fS; rw [if_neg hk2, if_neg hk1, if_pos hk0], ?_⟩
            simp
            simp at hlen
            omega
      · cases h
  · cases h
theorem run_fSs {cs : List Col} (fr : Int) : ∀ {ps : List Prt} {ks ks' : List Int} {st : List Fct}, st.length = ks.length → runStp (stpI cs) ks ps = some ks' → ∃ st', runStp (fS fr) st ps = some st' ∧ st'.length = ks'.length
  | [], ks, ks', st, hl, h => by
    simp only [runStp, Option.some.injEq] at h
    subst h
    exact ⟨st, rfl, hl⟩
  | p :: ps, ks, ks', st, hl, h => by
    simp only [runStp] at h
    split at h
    · rename_i k1 hk
      obtain ⟨s1, h1, h2⟩ := fS_of fr hl hk
      obtain ⟨s2, h3, h4⟩ := run_fSs fr h2 h
      exact ⟨s2, by simp only [runStp, h1]; exact h3, h4⟩
    · cases h
def factOf (fr : Int) (ps : List Prt) : Fct := match runStp (fS fr) [] ps with
  | some (f :: _) => f
  | _ => Fct.z
def rejects (cs : List Col) (ps : List Prt) (fr : Int) : Bool := if exprKind cs ps = 3 then (factOf fr ps).notT else false
-- find39
theorem run_rejI (d : Nat) (c c' : Bool) (cs : List Col) (ps : List Prt) (fr : Int) (hc : cs.length < 1099511627776) :
    retP (runD tab noExt (d + 7)) 39 [.sl c 2 (cs.map Col.cells), .sl c' 5 (ps.map Prt.cells), .int .i64 fr] = some [.bool (rejects cs ps fr)] := by
  rw [retP, runD_eq find39 _ _ _ (by simp)]
  by_cases h1 : exprKind cs ps = 3
  · obtain ⟨g1, g2, k, g3, g4⟩ := exprKind_spec (cs := cs) (ps := ps) (by omega)
    obtain ⟨st, g5, g6⟩ := run_fSs fr (st := []) rfl g3
    match st, g5, g6 with
    | f :: l, g5, g6 =>
      obtain ⟨stm', hl⟩ := loop_rejI (d + 3) c' fr ps (by omega) ps 0 rfl (Nat.zero_le _) 1099511627775 0 [] (f :: l) (by omega) (Nat.zero_le _) g5
      simp only [List.length_nil, List.map_nil, Int.natCast_zero] at hl
      simp -implicitDefEqProofs (disch := first | omega | assumption) only [go_sem, Nat.sub_zero, List.drop_zero, eq_self, Option.getD_none, Option.getD_some, Option.isSome_none, Option.isSome_some, Option.isNone_none, Option.isNone_some, Bool.or_false, Bool.false_or, Bool.and_false, Bool.false_and, Int.le_refl, Nat.le_refl, List.length_map, List.getElem?_map, Int.natCast_add, Int.natCast_one, List.append_assoc, List.length_append, Nat.add_assoc, and_self, and_true, true_and, and_false, false_and, or_true, true_or, or_false, false_or, not_true_eq_false, not_false_eq_true, Int.cast_ofNat_Int, Int.natCast_nonneg, Int.toNat_natCast, ne_eq, not_true_eq_false, not_false_eq_true, Nat.reduceBEq, Nat.reduceAdd, Nat.reduceSub, Nat.reduceMul, Nat.reduceLeDiff, Nat.reduceEqDiff, Nat.reduceLT, Int.reduceNeg, Int.reduceAdd, Int.reduceSub, Int.reduceMul, Int.reduceLE, Int.reduceLT, Int.reduceEq, Int.reduceToNat, reduceCtorEq, run_exprKindI, h1]
      rw [hl]
      simp -implicitDefEqProofs (disch := omega) only [go_sem, Nat.sub_zero, List.drop_zero, eq_self, Option.getD_none, Option.getD_some, Option.isSome_none, Option.isSome_some, Option.isNone_none, Option.isNone_some, Bool.or_false, Bool.false_or, Bool.and_false, Bool.false_and, Int.le_refl, Nat.le_refl, List.length_map, List.getElem?_map, Int.natCast_add, Int.natCast_one, List.append_assoc, List.length_append, Nat.add_assoc, and_self, and_true, true_and, and_false, false_and, or_true, true_or, or_false, false_or, not_true_eq_false, not_false_eq_true, Int.cast_ofNat_Int, Int.natCast_nonneg, Int.toNat_natCast, ne_eq, not_true_eq_false, not_false_eq_true, Nat.reduceBEq, Nat.reduceAdd, Nat.reduceSub, Nat.reduceMul, Nat.reduceLeDiff, Nat.reduceEqDiff, Nat.reduceLT, Int.reduceNeg, Int.reduceAdd, Int.reduceSub, Int.reduceMul, Int.reduceLE, Int.reduceLT, Int.reduceEq, Int.reduceToNat, reduceCtorEq, Int.toNat_zero, Fct.cells, Nat.zero_lt_succ]
      simp [rejects, h1, factOf, g5]
  · simp -implicitDefEqProofs (disch := first | omega | assumption) only [go_sem, Nat.sub_zero, List.drop_zero, eq_self, Option.getD_none, Option.getD_some, Option.isSome_none, Option.isSome_some, Option.isNone_none, Option.isNone_some, Bool.or_false, Bool.false_or, Bool.and_false, Bool.false_and, Int.le_refl, Nat.le_refl, List.length_map, List.getElem?_map, Int.natCast_add, Int.natCast_one, List.append_assoc, List.length_append, Nat.add_assoc, and_self, and_true, true_and, and_false, false_and, or_true, true_or, or_false, false_or, not_true_eq_false, not_false_eq_true, Int.cast_ofNat_Int, Int.natCast_nonneg, Int.toNat_natCast, ne_eq, not_true_eq_false, not_false_eq_true, Nat.reduceBEq, Nat.reduceAdd, Nat.reduceSub, Nat.reduceMul, Nat.reduceLeDiff, Nat.reduceEqDiff, Nat.reduceLT, Int.reduceNeg, Int.reduceAdd, Int.reduceSub, Int.reduceMul, Int.reduceLE, Int.reduceLT, Int.reduceEq, Int.reduceToNat, reduceCtorEq, run_exprKindI, h1]
    simp [rejects, h1]
end Go.Proofs.Ytgepapgabnaonaa.PE
