/- Expressions that are drawn. -/
import Derived.Test.YtgepapgabnaonaaPy2
set_option linter.unusedSimpArgs false
set_option linter.unusedVariables false
set_option maxHeartbeats 4000000
namespace Go.Proofs.Ytgepapgabnaonaa.PE
open Go.RowKit

theorem runStp_append {α β : Type} (f : α → β → Option α) : ∀ (a : α) (l l' : List β), runStp f a (l ++ l') = (match runStp f a l with
    | some b => runStp f b l'
    | none => none)
  | a, [], l' => rfl
  | a, p :: r, l' => by
    simp only [List.cons_append, runStp]
    cases f a p with
    | none => rfl
    | some b => exact runStp_append f b r l'
/-- It puts down one value of a kind. -/
def Puts (cs : List Col) (kd : Int) (e : List Prt) : Prop := (∀ st, runStp (stpI cs) st e = some (st ++ [kd])) ∧ ∀ p ∈ e, p.v.s.size ≤ 20
theorem leaf_step {cs : List Col} {kd : Int} {q : Prt} (h : LeafOk cs kd q) (h1 : 1 ≤ kd) (h3 : kd ≤ 3) (st : List Int) : stpI cs st q = some (st ++ [kd]) := by
  obtain ⟨k, n, v⟩ := q
  rcases h with ⟨rfl, g1, g2, g3, g4⟩ | ⟨rfl, g1, _, g3⟩
  · dsimp only at g1 g2 g3 g4
    subst g3
    have ht : Prt.tells cs.length ⟨2, n, Val.zero⟩ = true := by simp [Prt.tells]; omega
    have hn : ¬ ((st.length : Int) < 0) := by omega
    simp [stpI, ht, Prt.takes, kindOf, hn]
    simpa using g4
  · obtain ⟨g4, g5⟩ := g3 h1 h3
    dsimp only at g1 g4 g5
    subst g1
    have hz : ¬ v.kind = 0 := by omega
    have ht : Prt.tells cs.length ⟨1, 0, v⟩ = true := by simp [Prt.tells, g4, hz]
    have hn : ¬ ((st.length : Int) < 0) := by omega
    simp [stpI, ht, Prt.takes, kindOf, hn, g5]
theorem leaf_size {cs : List Col} {kd : Int} {q : Prt} (h : LeafOk cs kd q) : q.v.s.size ≤ 20 := by
  rcases h with ⟨_, _, _, g3, _⟩ | ⟨_, _, g, _⟩
  · rw [g3]; exact Nat.le_of_ble_eq_true rfl
  · exact g
theorem Puts.leaf {cs : List Col} {kd : Int} {q : Prt} (h : LeafOk cs kd q) (h1 : 1 ≤ kd) (h3 : kd ≤ 3) : Puts cs kd [q] :=
  ⟨fun st => by simp [runStp, leaf_step h h1 h3], fun p hp => by rw [List.mem_singleton.1 hp]; exact leaf_size h⟩
theorem step_two {cs : List Col} {st : List Int} {a b : Int} {p : Prt} {r : Int} (ht : p.tells cs.length = true) (h2 : p.takes = 2) (hk : kindOf cs p [a, b] = (r, true)) : stpI cs (st ++ [a, b]) p = some (st ++ [r]) := by
  unfold stpI
  rw [if_pos ht, h2, if_neg (by simp; omega)]
  simp [hk]
theorem step_one {cs : List Col} {st : List Int} {a : Int} {p : Prt} {r : Int} (ht : p.tells cs.length = true) (h2 : p.takes = 1) (hk : kindOf cs p [a] = (r, true)) : stpI cs (st ++ [a]) p = some (st ++ [r]) := by
  unfold stpI
  rw [if_pos ht, h2, if_neg (by simp; omega)]
  simp [hk]
theorem Puts.two {cs : List Col} {a b r : Int} {e f : List Prt} {p : Prt} (he : Puts cs a e) (hf : Puts cs b f) (ht : p.tells cs.length = true) (h2 : p.takes = 2) (hk : kindOf cs p [a, b] = (r, true)) (hs : p.v.s.size ≤ 20) : Puts cs r (e ++ f ++ [p]) := by
  refine ⟨fun st => ?_, fun q hq => ?_⟩
  · rw [runStp_append, runStp_append, he.1]
    simp only []
    rw [hf.1]
    simp only [runStp, List.append_assoc, List.cons_append, List.nil_append]
    rw [step_two ht h2 hk]
  · rcases List.mem_append.1 hq with hq | hq
    · rcases List.mem_append.1 hq with hq | hq
      · exact he.2 q hq
      · exact hf.2 q hq
    · rw [List.mem_singleton.1 hq]; exact hs
theorem Puts.one {cs : List Col} {a r : Int} {e : List Prt} {p : Prt} (he : Puts cs a e) (ht : p.tells cs.length = true) (h2 : p.takes = 1) (hk : kindOf cs p [a] = (r, true)) (hs : p.v.s.size ≤ 20) : Puts cs r (e ++ [p]) := by
  refine ⟨fun st => ?_, fun q hq => ?_⟩
  · rw [runStp_append, he.1]
    simp only [runStp]
    rw [step_one ht h2 hk]
  · rcases List.mem_append.1 hq with hq | hq
    · exact he.2 q hq
    · rw [List.mem_singleton.1 hq]; exact hs

def keptE (keep : Bool) (hp t : Heap) (rd : Blk) (e : List (List V)) : V × Heap := match keep with
  | true => (.ref (hp.length + (t.length + 1)) 0 0 e.length false, hp ++ rd :: (t ++ [.rows 0 5 e]))
  | false => (.sl false 5 e, hp ++ rd :: t)
-- find88
theorem ex_expr0 {d : Nat} {hp t : Heap} {c c2 : Bool} {bs : List UInt8} {p kd deep : Int} {cs : List Col} {keep : Bool} {X : Option (V × Heap)} (hcs : cs.length ≤ 10) (hx : callS (runD tab noExt (d + 4)) (hp ++ .box [.sl c 1 (cellsOfBytes bs), .int .i64 (p)] :: t) 88 [.ptr hp.length 0 0 0, .sl c2 2 (cs.map Col.cells), .int .i64 kd, .int .i64 deep] keep = X)
    (hdeep : deep < 1) (h1 : 1 ≤ kd) (h3 : kd ≤ 3) (hp0 : 0 ≤ p) (hq : p ≤ 1099500000000) (hb : bs.length ≤ 2000) (hhp : plainH hp = true) (ht : plainH t = true) :
    ∃ (e : List Prt) (p' : Int), X = some (keptE keep hp t (.box [.sl c 1 (cellsOfBytes bs), .int .i64 (p')]) (e.map Prt.cells)) ∧ p ≤ p' ∧ p' ≤ p + 13 ∧ Puts cs kd e ∧ e.length = 1 := by
  subst hx
  have hh : ∀ n, t.all (hiB n) = true := fun n => plainH_hi ht n
  have hhq : ∀ n, hp.all (hiB n) = true := fun n => plainH_hi hhp n
  rw [callS_eq, runD_eq find88 _ _ _ (by simp)]
  simp -implicitDefEqProofs (disch := omega) only [go_sem, Nat.sub_zero, List.drop_zero, eq_self, Option.getD_none, Option.getD_some, Option.isSome_none, Option.isSome_some, Option.isNone_none, Option.isNone_some, Bool.or_false, Bool.false_or, Bool.and_false, Bool.false_and, Int.le_refl, Nat.le_refl, List.length_map, List.getElem?_map, Int.natCast_add, Int.natCast_one, List.append_assoc, List.length_append, Nat.add_assoc, and_self, and_true, true_and, and_false, false_and, or_true, true_or, or_false, false_or, not_true_eq_false, not_false_eq_true, Int.cast_ofNat_Int, Int.natCast_nonneg, Int.toNat_natCast, ne_eq, not_true_eq_false, not_false_eq_true, Nat.reduceBEq, Nat.reduceAdd, Nat.reduceSub, Nat.reduceMul, Nat.reduceLeDiff, Nat.reduceEqDiff, Nat.reduceLT, Int.reduceNeg, Int.reduceAdd, Int.reduceSub, Int.reduceMul, Int.reduceLE, Int.reduceLT, Int.reduceEq, Int.reduceToNat, reduceCtorEq, hh, hhq, List.all_append, hdeep]
  generalize hx : callS (runD tab noExt _) _ 137 _ false = X
  obtain ⟨q, p1, rfl, g1, g2, g3⟩ := ex_leaf hx (by omega) (by omega) hb hhp (by simp only [ht, plainH_nil, plainH_cons, plainH_append, plainB, List.all_cons, List.all_nil, Bool.and_self, Bool.and_true]) (by omega)
  clear hx
  refine ⟨[q], p1, ?_, g1, by omega, Puts.leaf g3 h1 h3, rfl⟩
  cases keep
  · simp -implicitDefEqProofs (disch := omega) only [go_sem, Nat.sub_zero, List.drop_zero, eq_self, Option.getD_none, Option.getD_some, Option.isSome_none, Option.isSome_some, Option.isNone_none, Option.isNone_some, Bool.or_false, Bool.false_or, Bool.and_false, Bool.false_and, Int.le_refl, Nat.le_refl, List.length_map, List.getElem?_map, Int.natCast_add, Int.natCast_one, List.append_assoc, List.length_append, Nat.add_assoc, and_self, and_true, true_and, and_false, false_and, or_true, true_or, or_false, false_or, not_true_eq_false, not_false_eq_true, Int.cast_ofNat_Int, Int.natCast_nonneg, Int.toNat_natCast, ne_eq, not_true_eq_false, not_false_eq_true, Nat.reduceBEq, Nat.reduceAdd, Nat.reduceSub, Nat.reduceMul, Nat.reduceLeDiff, Nat.reduceEqDiff, Nat.reduceLT, Int.reduceNeg, Int.reduceAdd, Int.reduceSub, Int.reduceMul, Int.reduceLE, Int.reduceLT, Int.reduceEq, Int.reduceToNat, reduceCtorEq, hh, hhq, List.all_append, Prt.cells, keptE]
  · simp -implicitDefEqProofs (disch := omega) only [go_sem, Nat.sub_zero, List.drop_zero, eq_self, Option.getD_none, Option.getD_some, Option.isSome_none, Option.isSome_some, Option.isNone_none, Option.isNone_some, Bool.or_false, Bool.false_or, Bool.and_false, Bool.false_and, Int.le_refl, Nat.le_refl, List.length_map, List.getElem?_map, Int.natCast_add, Int.natCast_one, List.append_assoc, List.length_append, Nat.add_assoc, and_self, and_true, true_and, and_false, false_and, or_true, true_or, or_false, false_or, not_true_eq_false, not_false_eq_true, Int.cast_ofNat_Int, Int.natCast_nonneg, Int.toNat_natCast, ne_eq, not_true_eq_false, not_false_eq_true, Nat.reduceBEq, Nat.reduceAdd, Nat.reduceSub, Nat.reduceMul, Nat.reduceLeDiff, Nat.reduceEqDiff, Nat.reduceLT, Int.reduceNeg, Int.reduceAdd, Int.reduceSub, Int.reduceMul, Int.reduceLE, Int.reduceLT, Int.reduceEq, Int.reduceToNat, reduceCtorEq, hh, hhq, List.all_append, Prt.cells, keptE]
end Go.Proofs.Ytgepapgabnaonaa.PE
