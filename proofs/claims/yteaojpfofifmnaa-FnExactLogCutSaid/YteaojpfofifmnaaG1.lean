/- Texts of this claim, one behind the other: Ph1, Pl6, Ph2, Ph3, Pr5. -/
import Derived.Test.YteaojpfofifmnaaG0
import Derived.Deep.Slices
import Derived.ChangeArms
/- Logs that are cut: copies without the elements that a function names. -/
set_option linter.unusedSimpArgs false
set_option linter.unusedVariables false
set_option maxHeartbeats 4000000
set_option maxRecDepth 20000
namespace Go.Proofs.Yteaojpfofifmnaa.PE
open Go.RowKit

theorem loop_idrEnt (d : Nat) (t : Int) (g : Nat) (xs : List (Ent)) (P : Ent → Bool) (hs : xs.length < 4294967296)
    (hg : ∀ x ∈ xs, callS (runD tab noExt d) [.box [.int .i64 t], .rows 0 2 (xs.map Ent.cells)] g [V.agg (Ent.cells x), .ptr 0 0 0 0] false = some (.bool (P x), [.box [.int .i64 t], .rows 0 2 (xs.map Ent.cells)])) (K : Nat) (hK : xs.length ≤ K) :
    LoopS (runD tab noExt d) (drawI (runD tab noExt d)) [0, 1, 7, 8] [4] L153x0 2 K [(0, .ref 1 0 0 xs.length false), (1, .clo g [.ptr 0 0 0 0]), (7, .int .i64 xs.length), (8, .int .i64 0)] [.box [.int .i64 t], .rows 0 2 (xs.map Ent.cells)] =
      (match xs.findIdx? P with
        | some k => (some (.ret, [(4, .int .i64 (k : Int))], [.box [.int .i64 t], .rows 0 2 (xs.map Ent.cells)]) : Out)
        | none => some (.exit 0, [(4, .undef)], [.box [.int .i64 t], .rows 0 2 (xs.map Ent.cells)])) := by
  have key := LoopS_rec (run := runD tab noExt d) (draw := drawI (runD tab noExt d)) (live := [0, 1, 7, 8]) (out := [4]) (c := L153x0) (n0 := 2) xs (fun (i : Nat) (_ : Unit) => [(0, .ref 1 0 0 xs.length false), (1, .clo g [.ptr 0 0 0 0]), (7, .int .i64 xs.length), (8, .int .i64 i)]) (fun _ _ => [.box [.int .i64 t], .rows 0 2 (xs.map Ent.cells)])
    (fun r _ => match r.findIdx? P with
        | some k => (some (.ret, [(4, .int .i64 (xs.length - r.length + k : Int))], [.box [.int .i64 t], .rows 0 2 (xs.map Ent.cells)]) : Out)
        | none => some (.exit 0, [(4, .undef)], [.box [.int .i64 t], .rows 0 2 (xs.map Ent.cells)])) (fun _ K => ?_) (fun (i : Nat) x r _ K hi hx hr ih => ?_) K hK ()
  · simp only [Int.natCast_zero, Int.sub_self, Int.zero_add] at key
    exact key
  · rw [LoopS_eq]
    simp -implicitDefEqProofs only [go_sem, Nat.reduceBEq, Nat.reduceAdd, Nat.reduceSub, Nat.reduceMul, Nat.reduceLeDiff, Nat.reduceEqDiff, Nat.reduceLT, Int.reduceNeg, Int.reduceAdd, Int.reduceSub, Int.reduceMul, Int.reduceLE, Int.reduceLT, Int.reduceEq, Int.reduceToNat, reduceCtorEq, evL153x0, B153x0, Int.lt_irrefl, List.findIdx?_nil]
  · have hgx := hg x (List.mem_of_getElem? hx)
    try simp only [Ent.cells, Ent.v] at hgx
    have hlen : (xs.length : Int) - (r.length + 1) = i := by omega
    have hiN : i < xs.length := by omega
    rw [LoopS_eq]
    simp -implicitDefEqProofs (disch := omega) only [go_sem, Nat.reduceBEq, Nat.reduceAdd, Nat.reduceSub, Nat.reduceMul, Nat.reduceLeDiff, Nat.reduceEqDiff, Nat.reduceLT, Int.reduceNeg, Int.reduceAdd, Int.reduceSub, Int.reduceMul, Int.reduceLE, Int.reduceLT, Int.reduceEq, Int.reduceToNat, reduceCtorEq, evL153x0, B153x0, hi, hiN, hx, hgx, Ent.cells, Ent.v, IntWalk.i64_in]
    rw [List.findIdx?_cons]
    cases hp : P x
    · simp -implicitDefEqProofs (disch := omega) only [go_sem, Nat.reduceBEq, Nat.reduceAdd, Nat.reduceSub, Nat.reduceMul, Nat.reduceLeDiff, Nat.reduceEqDiff, Nat.reduceLT, Int.reduceNeg, Int.reduceAdd, Int.reduceSub, Int.reduceMul, Int.reduceLE, Int.reduceLT, Int.reduceEq, Int.reduceToNat, reduceCtorEq, IntWalk.i64_in, hp]
      have ih' := ih ()
      simp only [Int.natCast_add, Int.natCast_one, Ent.cells, Ent.v] at ih'
      rw [ih']
      cases hf : r.findIdx? P with
      | none => rfl
      | some k => simp; omega
    · simp -implicitDefEqProofs only [go_sem, Nat.reduceBEq, Nat.reduceAdd, Nat.reduceSub, Nat.reduceMul, Nat.reduceLeDiff, Nat.reduceEqDiff, Nat.reduceLT, Int.reduceNeg, Int.reduceAdd, Int.reduceSub, Int.reduceMul, Int.reduceLE, Int.reduceLT, Int.reduceEq, Int.reduceToNat, reduceCtorEq, hp, List.length_cons, Int.natCast_add, Int.natCast_one, hlen]
      simp
theorem idrEnt (d : Nat) (t : Int) (g : Nat) (xs : List (Ent)) (P : Ent → Bool) (hs : xs.length < 4294967296)
    (hg : ∀ x ∈ xs, callS (runD tab noExt d) [.box [.int .i64 t], .rows 0 2 (xs.map Ent.cells)] g [V.agg (Ent.cells x), .ptr 0 0 0 0] false = some (.bool (P x), [.box [.int .i64 t], .rows 0 2 (xs.map Ent.cells)])) :
    callS (runD tab noExt (d + 1)) [.box [.int .i64 t], .rows 0 2 (xs.map Ent.cells)] 153 [.ref 1 0 0 xs.length false, .clo g [.ptr 0 0 0 0]] false = some (.int .i64 (match xs.findIdx? P with | some k => (k : Int) | none => -1), [.box [.int .i64 t], .rows 0 2 (xs.map Ent.cells)]) := by
  rw [callS_eq, runD_eq find153 _ _ _ (by simp)]
  have hl := loop_idrEnt d t g xs P hs hg 1099511627775 (by omega)
  simp -implicitDefEqProofs (disch := omega) only [go_sem, Nat.reduceBEq, Nat.reduceAdd, Nat.reduceSub, Nat.reduceMul, Nat.reduceLeDiff, Nat.reduceEqDiff, Nat.reduceLT, Int.reduceNeg, Int.reduceAdd, Int.reduceSub, Int.reduceMul, Int.reduceLE, Int.reduceLT, Int.reduceEq, Int.reduceToNat, reduceCtorEq]
  try simp -implicitDefEqProofs only [go_sem, Nat.reduceBEq, Nat.reduceAdd, Nat.reduceSub, Nat.reduceMul, Nat.reduceLeDiff, Nat.reduceEqDiff, Nat.reduceLT, Int.reduceNeg, Int.reduceAdd, Int.reduceSub, Int.reduceMul, Int.reduceLE, Int.reduceLT, Int.reduceEq, Int.reduceToNat, reduceCtorEq] at hl
  rw [hl]
  cases hf : xs.findIdx? P <;> simp -implicitDefEqProofs only [go_sem, Nat.reduceBEq, Nat.reduceAdd, Nat.reduceSub, Nat.reduceMul, Nat.reduceLeDiff, Nat.reduceEqDiff, Nat.reduceLT, Int.reduceNeg, Int.reduceAdd, Int.reduceSub, Int.reduceMul, Int.reduceLE, Int.reduceLT, Int.reduceEq, Int.reduceToNat, reduceCtorEq]
/-- What lies in memory behind so many elements: those that are kept, and the rest as it was. -/
structure KeptEnt (xs : List (Ent)) (P : Ent → Bool) (i k : Nat) (cont : List (List V)) : Prop where
  len : cont.length = xs.length
  lt : k < i
  le : i ≤ xs.length
  kept : cont.take k = ((xs.take i).filter fun x => !P x).map Ent.cells
  rest : cont.drop i = (xs.drop i).map Ent.cells
  form : ∀ c ∈ cont, ∃ y : Ent, c = Ent.cells y
theorem loop_delEnt (d : Nat) (t : Int) (g : Nat) (xs : List (Ent)) (P : Ent → Bool) (hs : xs.length < 4294967296)
    (hg : ∀ x ∈ xs, ∀ cont, callS (runD tab noExt d) [.box [.int .i64 t], .rows 0 2 cont, .box (Ent.cells x)] g [V.agg (Ent.cells x), .ptr 0 0 0 0] false = some (.bool (P x), [.box [.int .i64 t], .rows 0 2 cont, .box (Ent.cells x)])) : ∀ (m i k : Nat) (cont : List (List V)), i + m = xs.length → KeptEnt xs P i k cont → ∀ K, m ≤ K →
    ∃ k' cont', KeptEnt xs P xs.length k' cont' ∧ LoopS (runD tab noExt d) (drawI (runD tab noExt d)) [0, 1, 5, 6] [0, 5] L129x0 2 K [(0, .ref 1 0 0 xs.length false), (1, .clo g [.ptr 0 0 0 0]), (5, .int .i64 k), (6, .int .i64 i)] [.box [.int .i64 t], .rows 0 2 cont] = some (.exit 0, [(0, .ref 1 0 0 xs.length false), (5, .int .i64 k')], [.box [.int .i64 t], .rows 0 2 cont'])
  | 0, i, k, cont, hi, hk, K, hK => by
    have e : i = xs.length := by omega
    subst e
    refine ⟨k, cont, hk, ?_⟩
    rw [LoopS_eq]
    simp -implicitDefEqProofs (disch := omega) only [go_sem, Nat.reduceBEq, Nat.reduceAdd, Nat.reduceSub, Nat.reduceMul, Nat.reduceLeDiff, Nat.reduceEqDiff, Nat.reduceLT, Int.reduceNeg, Int.reduceAdd, Int.reduceSub, Int.reduceMul, Int.reduceLE, Int.reduceLT, Int.reduceEq, Int.reduceToNat, reduceCtorEq, evL129x0, B129x0, Int.lt_irrefl]
  | m + 1, i, k, cont, hi, hk, K, hK => by
    obtain ⟨K, rfl⟩ : ∃ k', K = k' + 1 := ⟨K - 1, by omega⟩
    obtain ⟨h1, h2, h3, h4, h5, h6⟩ := hk
    have hx := List.getElem?_eq_getElem (show i < xs.length by omega)
    generalize xs[i]'(by omega) = x at hx
    have hcx : cont[i]? = some (Ent.cells x) := by
      have := congrArg (fun l : List (List V) => l[0]?) h5
      simpa [List.getElem?_drop, hx] using this
    have hgx := hg x (List.mem_of_getElem? hx) cont
    have hkl : k < cont.length := by omega
    have hkn : (k : Int) < xs.length := by omega
    have hin : (i : Int) < xs.length := by omega
    have hk1 : k < xs.length := by omega
    have hiN : i < xs.length := by omega
    obtain ⟨y, hy⟩ := h6 _ (List.getElem_mem hkl)
    have hck : cont[k]? = some (Ent.cells y) := by rw [List.getElem?_eq_getElem hkl, hy]
    clear hy
    have hsx : (xs.take (i + 1)) = xs.take i ++ [x] := take_snoc hx
    cases hp : P x
    · have hk' : KeptEnt xs P (i + 1) (k + 1) (cont.set k (Ent.cells x)) := by
        refine ⟨by simp [h1], by omega, by omega, ?_, ?_, fun c hc => (List.mem_or_eq_of_mem_set hc).elim (h6 c) (fun e => ⟨x, e⟩)⟩
        · rw [hsx, List.filter_append, List.map_append, ← h4, List.take_add_one, List.take_set_of_le (Nat.le_refl _), List.getElem?_set_self hkl]
          simp [hp]
        · rw [List.drop_set_of_lt (by omega), ← List.drop_drop, h5, ← List.map_drop, List.drop_drop]
      obtain ⟨k', cont', q1, q2⟩ := loop_delEnt d t g xs P hs hg m (i + 1) (k + 1) _ (by omega) hk' K (by omega)
      refine ⟨k', cont', q1, ?_⟩
      rw [← q2, LoopS_eq]
      rw [hp] at hgx
      try simp only [Ent.cells, Ent.v] at hgx hcx hck
      simp -implicitDefEqProofs (disch := omega) only [go_sem, Nat.reduceBEq, Nat.reduceAdd, Nat.reduceSub, Nat.reduceMul, Nat.reduceLeDiff, Nat.reduceEqDiff, Nat.reduceLT, Int.reduceNeg, Int.reduceAdd, Int.reduceSub, Int.reduceMul, Int.reduceLE, Int.reduceLT, Int.reduceEq, Int.reduceToNat, reduceCtorEq, evL129x0, B129x0, hin, hiN, frzs, refs, refC, hcx, hck, hgx, hkn, hkl, hk1, Ent.cells, Ent.v, IntWalk.i64_in, List.contains_nil, List.set_cons_succ, List.set_cons_zero]
    · have hk' : KeptEnt xs P (i + 1) k cont := by
        refine ⟨h1, by omega, by omega, ?_, ?_, h6⟩
        · rw [hsx, List.filter_append, List.map_append, h4]
          simp [hp]
        · rw [← List.drop_drop, h5, ← List.map_drop, List.drop_drop]
      obtain ⟨k', cont', q1, q2⟩ := loop_delEnt d t g xs P hs hg m (i + 1) k _ (by omega) hk' K (by omega)
      refine ⟨k', cont', q1, ?_⟩
      rw [← q2, LoopS_eq]
      rw [hp] at hgx
      try simp only [Ent.cells, Ent.v] at hgx hcx
      simp -implicitDefEqProofs (disch := omega) only [go_sem, Nat.reduceBEq, Nat.reduceAdd, Nat.reduceSub, Nat.reduceMul, Nat.reduceLeDiff, Nat.reduceEqDiff, Nat.reduceLT, Int.reduceNeg, Int.reduceAdd, Int.reduceSub, Int.reduceMul, Int.reduceLE, Int.reduceLT, Int.reduceEq, Int.reduceToNat, reduceCtorEq, evL129x0, B129x0, hin, hiN, frzs, refs, refC, hcx, hgx, hkn, hkl, hk1, Ent.cells, Ent.v, IntWalk.i64_in, List.contains_nil]
theorem find_keptEnt {xs : List (Ent)} {P : Ent → Bool} {k : Nat} (h : xs.findIdx? P = some k) : KeptEnt xs P (k + 1) k (xs.map Ent.cells) := by
  obtain ⟨h1, h2, h3⟩ := List.findIdx?_eq_some_iff_getElem.1 h
  refine ⟨by simp, by omega, by omega, ?_, List.map_drop.symm, fun c hc => by obtain ⟨y, _, rfl⟩ := List.mem_map.1 hc; exact ⟨y, rfl⟩⟩
  have e : (xs.take k).filter (fun x => !P x) = xs.take k := List.filter_eq_self.2 (fun x hx => by
    obtain ⟨j, hj⟩ := List.getElem?_of_mem hx
    have hjl := (List.getElem?_eq_some_iff.1 hj).1
    rw [List.length_take] at hjl
    rw [List.getElem?_take_of_lt (by omega), List.getElem?_eq_getElem (by omega)] at hj
    have := h3 j (by omega)
    rw [Option.some.inj hj] at this
    simpa using this)
  rw [take_snoc (List.getElem?_eq_getElem h1), List.filter_append, e]
  simp [h2, List.map_take]
theorem delEnt (d : Nat) (t : Int) (g : Nat) (xs : List (Ent)) (P : Ent → Bool) (hs : xs.length < 4294967296)
    (hg0 : ∀ x ∈ xs, callS (runD tab noExt d) [.box [.int .i64 t], .rows 0 2 (xs.map Ent.cells)] g [V.agg (Ent.cells x), .ptr 0 0 0 0] false = some (.bool (P x), [.box [.int .i64 t], .rows 0 2 (xs.map Ent.cells)]))
    (hg : ∀ x ∈ xs, ∀ cont, callS (runD tab noExt (d + 1)) [.box [.int .i64 t], .rows 0 2 cont, .box (Ent.cells x)] g [V.agg (Ent.cells x), .ptr 0 0 0 0] false = some (.bool (P x), [.box [.int .i64 t], .rows 0 2 cont, .box (Ent.cells x)])) :
    ∃ h', callS (runD tab noExt (d + 2)) [.box [.int .i64 t], .rows 0 2 (xs.map Ent.cells)] 129 [.ref 1 0 0 xs.length false, .clo g [.ptr 0 0 0 0]] false = some (.ref 1 0 0 ((xs.filter fun x => !P x).length) false, [.box [.int .i64 t], .rows 0 2 h']) ∧ h'.take ((xs.filter fun x => !P x).length) = (xs.filter fun x => !P x).map Ent.cells := by
  have hi := idrEnt d t g xs P hs hg0
  cases hf : xs.findIdx? P with
  | none =>
    rw [hf] at hi
    have hall : xs.filter (fun x => !P x) = xs := List.filter_eq_self.2 (fun x hx => by
      have := List.findIdx?_eq_none_iff.1 hf x hx
      simp [this])
    rw [hall]
    refine ⟨xs.map Ent.cells, ?_, List.take_of_length_le (by simp)⟩
    rw [callS_eq, runD_eq find129 _ _ _ (by simp)]
    simp -implicitDefEqProofs (disch := omega) only [go_sem, Nat.reduceBEq, Nat.reduceAdd, Nat.reduceSub, Nat.reduceMul, Nat.reduceLeDiff, Nat.reduceEqDiff, Nat.reduceLT, Int.reduceNeg, Int.reduceAdd, Int.reduceSub, Int.reduceMul, Int.reduceLE, Int.reduceLT, Int.reduceEq, Int.reduceToNat, reduceCtorEq, hi]
  | some k =>
    rw [hf] at hi
    have hk0 := find_keptEnt hf
    have hkl : k + 1 ≤ xs.length := hk0.le
    obtain ⟨k', cont', q1, q2⟩ := loop_delEnt (d + 1) t g xs P hs hg (xs.length - (k + 1)) (k + 1) k _ (by omega) hk0 1099511627775 (by omega)
    obtain ⟨r1, r2, r3, r4, r5, _⟩ := q1
    rw [List.take_length] at r4
    have hkk : k' = (xs.filter fun x => !P x).length := by
      have := congrArg List.length r4
      rw [List.length_take, List.length_map] at this
      omega
    have hk2 : (k' : Int) ≤ xs.length := by omega
    have hk3 : xs.length - k' ≠ 0 := by omega
    have hk4 : (xs.length - k' = 0) = False := eq_false hk3
    refine ⟨cont'.take k' ++ (List.replicate (xs.length - k') [.int .i64 0, .sl true 3 []] ++ cont'.drop (k' + (xs.length - k'))), ?_, ?_⟩
    · rw [← hkk, callS_eq, runD_eq find129 _ _ _ (by simp)]
      simp -implicitDefEqProofs (disch := omega) only [go_sem, Nat.reduceBEq, Nat.reduceAdd, Nat.reduceSub, Nat.reduceMul, Nat.reduceLeDiff, Nat.reduceEqDiff, Nat.reduceLT, Int.reduceNeg, Int.reduceAdd, Int.reduceSub, Int.reduceMul, Int.reduceLE, Int.reduceLT, Int.reduceEq, Int.reduceToNat, reduceCtorEq, hi, IntWalk.i64_in]
      try simp -implicitDefEqProofs only [go_sem, Nat.reduceBEq, Nat.reduceAdd, Nat.reduceSub, Nat.reduceMul, Nat.reduceLeDiff, Nat.reduceEqDiff, Nat.reduceLT, Int.reduceNeg, Int.reduceAdd, Int.reduceSub, Int.reduceMul, Int.reduceLE, Int.reduceLT, Int.reduceEq, Int.reduceToNat, reduceCtorEq] at q2
      rw [q2]
      simp -implicitDefEqProofs (disch := omega) only [go_sem, Nat.reduceBEq, Nat.reduceAdd, Nat.reduceSub, Nat.reduceMul, Nat.reduceLeDiff, Nat.reduceEqDiff, Nat.reduceLT, Int.reduceNeg, Int.reduceAdd, Int.reduceSub, Int.reduceMul, Int.reduceLE, Int.reduceLT, Int.reduceEq, Int.reduceToNat, reduceCtorEq, hk2, hk4, List.set_cons_succ, List.set_cons_zero]
    · rw [← hkk, List.take_left' (by rw [List.length_take]; omega)]
      exact r4

end Go.Proofs.Yteaojpfofifmnaa.PE
/- A backup and the log behind it. -/
set_option linter.unusedSimpArgs false
set_option linter.unusedVariables false
set_option maxHeartbeats 4000000
namespace Go.Proofs.Yteaojpfofifmnaa.PE
open Go.RowKit

def behStep (t : Int) (b : List Ent) (x : Ent) : List Ent := if t < x.time then b ++ [x] else b
def beh (k : Ent) (l : List Ent) : List Ent := l.foldl (behStep k.time) [k]
def behOk (k : Ent) (l : List Ent) : Bool := logOk [k] && (logOk l && decide (((beh k l).length : Int) ≤ 12))
end Go.Proofs.Yteaojpfofifmnaa.PE
/- Logs that are cut at a time: both functions. -/
set_option linter.unusedSimpArgs false
set_option linter.unusedVariables false
set_option maxHeartbeats 4000000
set_option maxRecDepth 20000
namespace Go.Proofs.Yteaojpfofifmnaa.PE
open Go.RowKit

def late (t : Int) (x : Ent) : Bool := decide (t < x.time)
def cutL (t : Int) (l : List Ent) : List Ent := l.filter fun x => !late t x
theorem cutL_mem {t : Int} {l : List Ent} : ∀ e ∈ cutL t l, e ∈ l := fun e he => (List.mem_filter.1 he).1
theorem cutL_len (t : Int) (l : List Ent) : (cutL t l).length ≤ l.length := List.length_filter_le _ _
theorem cutL_lim {t : Int} {l : List Ent} (h : LimE l) : LimE (cutL t l) := h.sub (by have := cutL_len t l; have := h.1; omega) cutL_mem
-- find131
theorem clo_cut (d : Nat) (t : Int) (x : Ent) (cont : List (List V)) : callS (runD tab noExt (d + 1)) [.box [.int .i64 t], .rows 0 2 cont] 131 [.agg (Ent.cells x), .ptr 0 0 0 0] false = some (.bool (late t x), [.box [.int .i64 t], .rows 0 2 cont]) := by
  rw [callS_eq, runD_eq find131 _ _ _ (by simp)]
  simp -implicitDefEqProofs (disch := omega) only [go_sem, Nat.reduceBEq, Nat.reduceAdd, Nat.reduceSub, Nat.reduceMul, Nat.reduceLeDiff, Nat.reduceEqDiff, Nat.reduceLT, Int.reduceNeg, Int.reduceAdd, Int.reduceSub, Int.reduceMul, Int.reduceLE, Int.reduceLT, Int.reduceEq, Int.reduceToNat, reduceCtorEq, Ent.cells, Ent.v, late]
theorem clo_cut3 (d : Nat) (t : Int) (x : Ent) (cont : List (List V)) : callS (runD tab noExt (d + 1)) [.box [.int .i64 t], .rows 0 2 cont, .box (Ent.cells x)] 131 [.agg (Ent.cells x), .ptr 0 0 0 0] false = some (.bool (late t x), [.box [.int .i64 t], .rows 0 2 cont, .box (Ent.cells x)]) := by
  rw [callS_eq, runD_eq find131 _ _ _ (by simp)]
  simp -implicitDefEqProofs (disch := omega) only [go_sem, Nat.reduceBEq, Nat.reduceAdd, Nat.reduceSub, Nat.reduceMul, Nat.reduceLeDiff, Nat.reduceEqDiff, Nat.reduceLT, Int.reduceNeg, Int.reduceAdd, Int.reduceSub, Int.reduceMul, Int.reduceLE, Int.reduceLT, Int.reduceEq, Int.reduceToNat, reduceCtorEq, Ent.cells, Ent.v, late]
theorem clone_Ent (d : Nat) (c : Bool) (l : List Ent) (hl : l.length < 4294967296) : runD tab noExt (d + 1) 130 [.sl c 2 (l.map Ent.cells)] [] = some (match l with
    | [] => ([.sl true 2 []], [])
    | _ :: _ => ([.ref 0 0 0 l.length false], [.rows 0 2 (l.map Ent.cells)])) := by
  rw [runD_eq find130 _ _ _ (by simp)]
  cases l with
  | nil => simp -implicitDefEqProofs (disch := omega) only [go_sem, Nat.reduceBEq, Nat.reduceAdd, Nat.reduceSub, Nat.reduceMul, Nat.reduceLeDiff, Nat.reduceEqDiff, Nat.reduceLT, Int.reduceNeg, Int.reduceAdd, Int.reduceSub, Int.reduceMul, Int.reduceLE, Int.reduceLT, Int.reduceEq, Int.reduceToNat, reduceCtorEq, elemsOf]
  | cons x l =>
    have h1 : l.length + 1 < 4294967296 := by simpa using hl
    simp -implicitDefEqProofs (disch := omega) only [go_sem, Nat.reduceBEq, Nat.reduceAdd, Nat.reduceSub, Nat.reduceMul, Nat.reduceLeDiff, Nat.reduceEqDiff, Nat.reduceLT, Int.reduceNeg, Int.reduceAdd, Int.reduceSub, Int.reduceMul, Int.reduceLE, Int.reduceLT, Int.reduceEq, Int.reduceToNat, reduceCtorEq, elemsOf, h1, frzs, List.flatMap_nil, appendTo, small]
-- find89
theorem own_cut (d : Nat) (c : Bool) (l : List Ent) (t : Int) (h : LimE l) : ∃ v hc ids, runD tab noExt (d + 6) 89 [.sl c 2 (l.map Ent.cells), .int .i64 t] [] = some ([v], hc) ∧ OwnF hc (.sub fdEntry) v (.sub ((cutL t l).map entU)) ids ∧ ids.Nodup := by
  have hln := h.1
  have hcl := clone_Ent (d + 4) c l (by omega)
  obtain ⟨h', q1, q2⟩ := delEnt (d + 3) t 131 l (late t) (by omega) (fun x _ => clo_cut (d + 2) t x _) (fun x _ cont => clo_cut3 (d + 3) t x cont)
  have hlim := cutL_lim (t := t) h
  obtain ⟨v1, hc, is0, e1, e2, e3⟩ := own_logCopy (d + 1) false (cutL t l) hlim.fine.1
  have q2' : List.take (cutL t l).length h' = (cutL t l).map Ent.cells := q2
  have q1' : callS (runD tab noExt (d + 5)) [.box [.int .i64 t], .rows 0 2 (l.map Ent.cells)] 129 [.ref 1 0 0 l.length false, .clo 131 [.ptr 0 0 0 0]] false = some (.ref 1 0 0 (cutL t l).length false, [.box [.int .i64 t], .rows 0 2 h']) := q1
  obtain ⟨w, h1, js, k1, k2, k3, k4, k5, k6⟩ := own_call (h := [.box [.int .i64 t], .rows 0 2 h']) (args := [.ref 1 0 0 (cutL t l).length false]) (by simp only [pureDAs, mapO, pureDA, pureD, deepest, List.getElem?_cons_succ, List.getElem?_cons_zero, if_true, List.drop_zero, q2']) e1 e2 e3
  refine ⟨w, h1, js, ?_, k2, k3⟩
  have hty : ∀ (n : Nat), List.take n ((l.map Ent.cells).drop 0) = (l.map Ent.cells).take n := fun n => rfl
  have htl : List.take l.length (l.map Ent.cells) = l.map Ent.cells := List.take_of_length_le (by simp)
  clear e1 e2 e3 q1 q2
  rw [runD_eq find89 _ _ _ (by simp)]
  have hk := own_cases k2
  clear k2
  cases l with
  | nil =>
    simp only [List.map_nil, List.length_nil] at hcl q1'
    rcases hk with ⟨cx, rfl⟩ | ⟨id, st, m, clip, rfl⟩ <;> simp -implicitDefEqProofs (disch := first | omega | assumption) only [go_sem, Nat.reduceBEq, Nat.reduceAdd, Nat.reduceSub, Nat.reduceMul, Nat.reduceLeDiff, Nat.reduceEqDiff, Nat.reduceLT, Int.reduceNeg, Int.reduceAdd, Int.reduceSub, Int.reduceMul, Int.reduceLE, Int.reduceLT, Int.reduceEq, Int.reduceToNat, reduceCtorEq, hcl, q1', k1, resOk]
  | cons x r =>
    simp only [List.map_cons, List.length_cons] at hcl q1' htl
    rcases hk with ⟨cx, rfl⟩ | ⟨id, st, m, clip, rfl⟩ <;> simp -implicitDefEqProofs (disch := first | omega | assumption) only [go_sem, Nat.reduceBEq, Nat.reduceAdd, Nat.reduceSub, Nat.reduceMul, Nat.reduceLeDiff, Nat.reduceEqDiff, Nat.reduceLT, Int.reduceNeg, Int.reduceAdd, Int.reduceSub, Int.reduceMul, Int.reduceLE, Int.reduceLT, Int.reduceEq, Int.reduceToNat, reduceCtorEq, hcl, q1', htl, k1, resOk, frzs, refsAs, refsA, refC, List.flatMap_cons, List.flatMap_nil]
-- find45
theorem own_LogCut (d : Nat) (c : Bool) (l : List Ent) (t : Int) (h : LimE l) : ∃ v hc ids, runD tab noExt (d + 10) 45 [.sl c 2 (l.map Ent.cells), .int .i64 t] [] = some ([v], hc) ∧ OwnF hc (.sub fdEntry) v (.sub ((if logOk l then cutL t l else []).map entU)) ids ∧ ids.Nodup := by
  obtain ⟨f1, f2, f3⟩ := h.fine
  have hv := run_logI d c l f3 f2
  cases hok : logOk l
  · rw [hok] at hv
    refine ⟨.sl true 2 [], [], [], ?_, own_nil rfl, List.nodup_nil⟩
    rw [runD_eq find45 _ _ _ (by simp)]
    simp -implicitDefEqProofs (disch := omega) only [go_sem, Nat.reduceBEq, Nat.reduceAdd, Nat.reduceSub, Nat.reduceMul, Nat.reduceLeDiff, Nat.reduceEqDiff, Nat.reduceLT, Int.reduceNeg, Int.reduceAdd, Int.reduceSub, Int.reduceMul, Int.reduceLE, Int.reduceLT, Int.reduceEq, Int.reduceToNat, reduceCtorEq, hv]
  · rw [hok] at hv
    obtain ⟨v1, hc, is0, e1, e2, e3⟩ := own_cut (d + 3) c l t h
    obtain ⟨w, h1, js, k1, k2, k3, k4, k5, k6⟩ := own_call (h := []) (args := [.sl c 2 (l.map Ent.cells), .int .i64 t]) (by simp only [pureDAs, mapO, pureDA, pureD]) e1 e2 e3
    refine ⟨w, h1, js, ?_, k2, k3⟩
    rw [runD_eq find45 _ _ _ (by simp)]
    rcases own_cases k2 with ⟨cx, rfl⟩ | ⟨id, st, m, clip, rfl⟩ <;> simp -implicitDefEqProofs (disch := first | omega | assumption) only [go_sem, Nat.reduceBEq, Nat.reduceAdd, Nat.reduceSub, Nat.reduceMul, Nat.reduceLeDiff, Nat.reduceEqDiff, Nat.reduceLT, Int.reduceNeg, Int.reduceAdd, Int.reduceSub, Int.reduceMul, Int.reduceLE, Int.reduceLT, Int.reduceEq, Int.reduceToNat, reduceCtorEq, hv, k1, resOk]
def cutStep (t : Int) (b : List Ent) (x : Ent) : List Ent := if x.time ≤ t then b ++ [x] else b
theorem cut_fold (t : Int) : ∀ (l b : List Ent), l.foldl (cutStep t) b = b ++ cutL t l
  | [], b => by simp [cutL]
  | x :: r, b => by
    rw [List.foldl_cons, cut_fold t r]
    unfold cutStep cutL
    rw [List.filter_cons]
    by_cases h : x.time ≤ t
    · have h2 : ¬ t < x.time := by omega
      simp [h, late, h2]
    · have h2 : t < x.time := by omega
      simp [h, late, h2]
theorem loop_cutS (d : Nat) (c : Bool) (t : Int) (l : List Ent) (hl : l.length ≤ 1048576) (hv : retP (runD tab noExt (d + 5)) 63 [.sl c 2 (l.map Ent.cells)] = some [.bool true]) (K : Nat) (hK : (l).length ≤ K) (b0 : List Ent) (hb0 : (fun (i : Nat) (b : List Ent) => b.length ≤ i) 0 b0) : LoopS (runD tab noExt (d + 5)) (drawI (runD tab noExt (d + 5))) [0, 1, 5, 6] [5] L44x0 ([.rows (b0).length 2 ((b0).map Ent.cells)] : Heap).length K [(0, .sl c 2 (l.map Ent.cells)), (1, .int .i64 t), (5, .ref 0 (b0).length 0 (b0).length false), (6, .int .i64 (0 : Nat))] [.rows (b0).length 2 ((b0).map Ent.cells)] = (some (.exit 0, [(5, .ref 0 (((l).foldl (cutStep t) b0)).length 0 (((l).foldl (cutStep t) b0)).length false)], [.rows (((l).foldl (cutStep t) b0)).length 2 ((((l).foldl (cutStep t) b0)).map Ent.cells)]) : Out) ∧ (fun (i : Nat) (b : List Ent) => b.length ≤ i) (l).length ((l).foldl (cutStep t) b0) := by
  have key := LoopS_foldI (run := (runD tab noExt (d + 5))) (draw := drawI (runD tab noExt (d + 5))) (live := [0, 1, 5, 6]) (out := [5]) (c := L44x0) (n0 := ([.rows (b0).length 2 ((b0).map Ent.cells)] : Heap).length) (l) (cutStep t) (fun (i : Nat) (b : List Ent) => b.length ≤ i) (fun (i : Nat) (b : List Ent) => [(0, .sl c 2 (l.map Ent.cells)), (1, .int .i64 t), (5, .ref 0 (b).length 0 (b).length false), (6, .int .i64 (i : Nat))]) (fun (i : Nat) (b : List Ent) => [.rows (b).length 2 ((b).map Ent.cells)]) (fun b => (some (.exit 0, [(5, .ref 0 (b).length 0 (b).length false)], [.rows (b).length 2 ((b).map Ent.cells)]) : Out)) (fun b K hb => ?_) (fun (i : Nat) (x : Ent) b K hi hx hb => ?_) K hK b0 hb0
  · simp only [Int.natCast_zero] at key
    exact key
  · rw [LoopS_eq]
    simp -implicitDefEqProofs only [go_sem, Nat.reduceBEq, Nat.reduceAdd, Nat.reduceSub, Nat.reduceMul, Nat.reduceLeDiff, Nat.reduceEqDiff, Nat.reduceLT, Int.reduceNeg, Int.reduceAdd, Int.reduceSub, Int.reduceMul, Int.reduceLE, Int.reduceLT, Int.reduceEq, Int.reduceToNat, reduceCtorEq, evL44x0, B44x0, Int.lt_irrefl]
  · have hsm : b.length + 1 < 4294967296 := (by omega); have key : cutStep t b x = if x.time ≤ t then b ++ [x] else b := rfl; rw [key]; by_cases k1 : x.time ≤ t <;> (first | rw [if_pos k1] | rw [if_neg k1])
    all_goals
      refine ⟨?_, ?_⟩
      · (first | omega | (simp; done) | (simp; omega))
      · rw [LoopS_eq]
        simp -implicitDefEqProofs (disch := first | omega | assumption) only [go_sem, Nat.reduceBEq, Nat.reduceAdd, Nat.reduceSub, Nat.reduceMul, Nat.reduceLeDiff, Nat.reduceEqDiff, Nat.reduceLT, Int.reduceNeg, Int.reduceAdd, Int.reduceSub, Int.reduceMul, Int.reduceLE, Int.reduceLT, Int.reduceEq, Int.reduceToNat, reduceCtorEq, evL44x0, B44x0, hi, hx, IntWalk.i64_in, List.map_append, List.foldl_cons, hv, hx, hsm, Ent.cells, Ent.v, k1, if_true, if_false, List.map_cons, List.map_nil, elemsOf, elemOf, frzs, refs, refC, refsV]
        skip
-- find44
theorem run_LogCutS (d : Nat) (c : Bool) (l : List Ent) (t : Int) (h : LimE l) : ∃ cw, retP (runD tab noExt (d + 6)) 44 [.sl c 2 (l.map Ent.cells), .int .i64 t] = some [.sl cw 2 (((if logOk l then cutL t l else []).map Ent.own).map Ent.cells)] := by
  obtain ⟨f1, f2, f3⟩ := h.fine
  have hv := run_logS d c l f3 f2
  refine ⟨false, ?_⟩
  cases hok : logOk l
  · rw [hok] at hv
    have hcp := run_l18 (d + 2) false ([] : List Ent) ⟨by simp, fun e he => by cases he⟩
    simp only [List.map_nil] at hcp
    have hl : LoopS (runD tab noExt (d + 5)) (drawI (runD tab noExt (d + 5))) [0, 1, 5, 6] [5] L44x0 1 1099511627775 [(0, .sl c 2 (l.map Ent.cells)), (1, .int .i64 t), (5, .ref 0 0 0 0 false), (6, .int .i64 0)] [.rows 0 2 []] = some (.exit 0, [(5, .ref 0 0 0 0 false)], [.rows 0 2 []]) := by
      rw [LoopS_eq]
      by_cases h0 : (0 : Int) < l.length
      · simp -implicitDefEqProofs (disch := omega) only [go_sem, Nat.reduceBEq, Nat.reduceAdd, Nat.reduceSub, Nat.reduceMul, Nat.reduceLeDiff, Nat.reduceEqDiff, Nat.reduceLT, Int.reduceNeg, Int.reduceAdd, Int.reduceSub, Int.reduceMul, Int.reduceLE, Int.reduceLT, Int.reduceEq, Int.reduceToNat, reduceCtorEq, evL44x0, B44x0, hv, h0]
      · simp -implicitDefEqProofs (disch := omega) only [go_sem, Nat.reduceBEq, Nat.reduceAdd, Nat.reduceSub, Nat.reduceMul, Nat.reduceLeDiff, Nat.reduceEqDiff, Nat.reduceLT, Int.reduceNeg, Int.reduceAdd, Int.reduceSub, Int.reduceMul, Int.reduceLE, Int.reduceLT, Int.reduceEq, Int.reduceToNat, reduceCtorEq, evL44x0, B44x0, hv, h0]
    rw [retP, runD_eq find44 _ _ _ (by simp)]
    simp -implicitDefEqProofs (disch := omega) only [go_sem, Nat.reduceBEq, Nat.reduceAdd, Nat.reduceSub, Nat.reduceMul, Nat.reduceLeDiff, Nat.reduceEqDiff, Nat.reduceLT, Int.reduceNeg, Int.reduceAdd, Int.reduceSub, Int.reduceMul, Int.reduceLE, Int.reduceLT, Int.reduceEq, Int.reduceToNat, reduceCtorEq, elemsOf, elemOf]
    try simp -implicitDefEqProofs only [go_sem, Nat.reduceBEq, Nat.reduceAdd, Nat.reduceSub, Nat.reduceMul, Nat.reduceLeDiff, Nat.reduceEqDiff, Nat.reduceLT, Int.reduceNeg, Int.reduceAdd, Int.reduceSub, Int.reduceMul, Int.reduceLE, Int.reduceLT, Int.reduceEq, Int.reduceToNat, reduceCtorEq] at hl
    rw [hl]
    simp -implicitDefEqProofs (disch := omega) only [go_sem, Nat.reduceBEq, Nat.reduceAdd, Nat.reduceSub, Nat.reduceMul, Nat.reduceLeDiff, Nat.reduceEqDiff, Nat.reduceLT, Int.reduceNeg, Int.reduceAdd, Int.reduceSub, Int.reduceMul, Int.reduceLE, Int.reduceLT, Int.reduceEq, Int.reduceToNat, reduceCtorEq, hcp, Bool.false_eq_true, if_false]
  · rw [hok] at hv
    obtain ⟨hl, hle⟩ := loop_cutS d c t l h.1 hv 1099511627775 (by have := h.1; omega) [] (by simp)
    rw [cut_fold, List.nil_append] at hl
    have hlim := cutL_lim (t := t) h
    have hcp := run_l18 (d + 2) false (cutL t l) hlim.fine.1
    have et : List.take (cutL t l).length ((cutL t l).map Ent.cells) = (cutL t l).map Ent.cells := List.take_of_length_le (by simp)
    simp only [List.length_nil, List.map_nil, Int.natCast_zero] at hl
    rw [retP, runD_eq find44 _ _ _ (by simp)]
    simp -implicitDefEqProofs (disch := omega) only [go_sem, Nat.reduceBEq, Nat.reduceAdd, Nat.reduceSub, Nat.reduceMul, Nat.reduceLeDiff, Nat.reduceEqDiff, Nat.reduceLT, Int.reduceNeg, Int.reduceAdd, Int.reduceSub, Int.reduceMul, Int.reduceLE, Int.reduceLT, Int.reduceEq, Int.reduceToNat, reduceCtorEq, elemsOf, elemOf]
    try simp -implicitDefEqProofs only [go_sem, Nat.reduceBEq, Nat.reduceAdd, Nat.reduceSub, Nat.reduceMul, Nat.reduceLeDiff, Nat.reduceEqDiff, Nat.reduceLT, Int.reduceNeg, Int.reduceAdd, Int.reduceSub, Int.reduceMul, Int.reduceLE, Int.reduceLT, Int.reduceEq, Int.reduceToNat, reduceCtorEq] at hl
    rw [hl]
    simp -implicitDefEqProofs (disch := omega) only [go_sem, Nat.reduceBEq, Nat.reduceAdd, Nat.reduceSub, Nat.reduceMul, Nat.reduceLeDiff, Nat.reduceEqDiff, Nat.reduceLT, Int.reduceNeg, Int.reduceAdd, Int.reduceSub, Int.reduceMul, Int.reduceLE, Int.reduceLT, Int.reduceEq, Int.reduceToNat, reduceCtorEq, et, hcp, if_true]
theorem cutL_vs {a b : List Ent} (h : a.map entU = b.map entU) (t : Int) : (cutL t a).map entU = (cutL t b).map entU := by
  have key : ∀ l : List Ent, (cutL t l).map entU = (l.map entU).filter (fun u => match u with | .int n :: _ => decide (n ≤ t) | _ => false) := by
    intro l
    unfold cutL
    rw [List.filter_map]
    congr 1
    refine List.filter_congr (fun x _ => ?_)
    simp only [Function.comp, entU, late]
    by_cases hx : t < x.time
    · have : ¬ x.time ≤ t := by omega
      simp [hx, this]
    · have : x.time ≤ t := by omega
      simp [hx, this]
  rw [key, key, h]
theorem core_LogCut {x0 : List (List U)} (h0 : ∃ p, PurF (.sub fdEntry) p (.sub x0)) (L0 : LenF 1048576 1048576 (.sub fdEntry) (.sub x0)) (n1 : Int) (i1 : -9223372036854775808 ≤ n1 ∧ n1 ≤ 9223372036854775807) :
    ∃ ux, LenF big big (.sub fdEntry) (.sub ux) ∧ (cntF (.sub fdEntry) (.sub ux) : Int) ≤ 2305843009213693952 ∧
      (∀ {q0 : V}, PurF (.sub fdEntry) q0 (.sub x0) → ∃ w, retP (runD tab noExt 60) 44 [q0, .int .i64 n1] = some [w] ∧ PurF (.sub fdEntry) w (.sub ux)) ∧
      (∀ {q0 : V}, PurF (.sub fdEntry) q0 (.sub x0) → ∃ v hc ids, runD tab noExt 60 45 [q0, .int .i64 n1] [] = some ([v], hc) ∧ OwnF hc (.sub fdEntry) v (.sub ux) ids ∧ ids.Nodup) := by
  obtain ⟨p0, g0⟩ := h0
  obtain ⟨_, l, rfl, rfl⟩ := ents_each g0
  have lim := ents_lim L0
  have key : ∀ l2 : List Ent, l2.map entU = l.map entU → (if logOk l2 then cutL n1 l2 else []).map entU = (if logOk l then cutL n1 l else []).map entU := by
    intro l2 f
    rw [logOk_vs f]
    cases logOk l
    · rfl
    · exact cutL_vs f n1
  have hsub : LimE (if logOk l then cutL n1 l else []) := by
    cases logOk l
    · exact ⟨by simp, fun _ h => by simp at h⟩
    · exact cutL_lim lim
  refine ⟨(if logOk l then cutL n1 l else []).map entU, LenF_mono (by decide) (by decide) _ (ents_len hsub), ents_cnt (fun e he => ?_) hsub.1, fun k0 => ?_, fun k0 => ?_⟩
  · cases hok : logOk l
    · rw [hok] at he; simp at he
    · rw [hok] at he
      exact logOk_one hok e (cutL_mem e he)
  all_goals
    obtain ⟨c, l2, rfl, f⟩ := ents_each k0
    have lim2 : LimE l2 := ents_lim (by rw [← f]; exact L0)
    rw [← key l2 f.symm]
  · obtain ⟨cw, e⟩ := run_LogCutS 54 c l2 n1 lim2
    exact ⟨_, e, ents_own_pur cw _⟩
  · exact own_LogCut 50 c l2 n1 lim2
end Go.Proofs.Yteaojpfofifmnaa.PE
/- The exact statement of FnExactLogCut. -/
set_option linter.unusedVariables false
set_option linter.unusedSimpArgs false
set_option maxHeartbeats 8000000
set_option maxRecDepth 20000
namespace Go.Proofs.Yteaojpfofifmnaa.PE
open Go.RowKit

-- find8
theorem law_FnExactLogCut {p0 : V} {x0 : List (List U)} (n1 : Int) (g0 : PurF (.sub fdEntry) p0 (.sub x0)) (B0 : LenF 9223372036854775807 9223372036854775807 (.sub fdEntry) (.sub x0)) (i1 : -9223372036854775808 ≤ n1 ∧ n1 ≤ 9223372036854775807) : ∃ d h1, runD tab noExt d 8 [p0, .int .i64 n1] [] = some ([.bool true], h1) := by
  refine ⟨61, ?_⟩
  rw [runD_eq find8 _ _ _ (by simp)]
  obtain ⟨cl0, ct0, rfl, hz0⟩ := purS_Entry g0
  have hl0 := Zip2_len hz0
  have z0 := run_szEntryS 54 (1048576) g0 B0 (by omega) (by omega)
  have y0 := szF_spec (N := 1048576) (.sub fdEntry) (.sub x0) (1048576) (by decide) (by omega)
  generalize szF (.sub fdEntry) (.sub x0) (1048576) = l0 at z0 y0
  by_cases q0 : l0 < 0
  · simp -implicitDefEqProofs (disch := omega) only [go_sem, Nat.reduceBEq, Nat.reduceAdd, Nat.reduceSub, Nat.reduceMul, Nat.reduceLeDiff, Nat.reduceEqDiff, Nat.reduceLT, Int.reduceNeg, Int.reduceAdd, Int.reduceSub, Int.reduceMul, Int.reduceLE, Int.reduceLT, Int.reduceEq, Int.reduceToNat, reduceCtorEq, z0, q0]
    exact ⟨_, rfl⟩
  obtain ⟨y0a, L0, y0c⟩ := y0 (by omega) (by omega)
  have M0 := LenF_mono (n' := big) (m' := big) (by decide) (by decide) _ L0
  have P0 : x0.length ≤ 1048576 ∧ AllU (LenR 1048576 1048576 fdEntry) x0 := by simpa only [LenF] using L0
  obtain ⟨ux, C1, C2, cS, cI⟩ := core_LogCut ⟨_, g0⟩ L0 n1 i1
  obtain ⟨v0, c0, d0, r0, o0, n0'⟩ := run_toEntryS 54 g0 P0.1 P0.2
  obtain ⟨t0, h0, s0, e0, a0, u0, w0, f0, m0⟩ := own_call (h := ([] : Heap)) (args := [(.sl cl0 2 ct0)]) (by simp only [pureDAs, mapO, pureDA_pur g0]) r0 o0 n0'
  have b0 := own_ids a0 w0
  obtain ⟨qsw0, zsw0, ysw0⟩ := OwnF_pure (.sub fdEntry) 6 (by decide) a0
  have xsw0 := pureDA_of a0 zsw0
  obtain ⟨w, eS, gw⟩ := cS ysw0
  have eW := call_specB (h := h0) (args := [t0, .int .i64 n1]) (by simp only [pureDAs, mapO, pureDA_int, pureDA_bool, pureDA_str, pureDA_agg, pureD_intv, pureD_boolv, pureD_strv, Option.map_some, zsw0, xsw0]) eS
  obtain ⟨hd, hdE⟩ : ∃ hb : Heap, hb = h0.map deadB := ⟨_, rfl⟩
  have mD : hd.length = h0.length := by rw [hdE]; simp
  rw [← hdE] at eW
  try simp only [oneOf] at eW
  obtain ⟨v1, c1, d1, r1, o1, n1'⟩ := run_toEntryS 54 g0 P0.1 P0.2
  obtain ⟨t1, h1, s1, e1, a1, u1, w1, f1, m1⟩ := own_call (h := hd) (args := [(.sl cl0 2 ct0)]) (by simp only [pureDAs, mapO, pureDA_pur g0]) r1 o1 n1'
  have b1 := own_ids a1 w1
  obtain ⟨qgx0, zgx0, ygx0⟩ := OwnF_pure (.sub fdEntry) 6 (by decide) a1
  have xgx0 := pureDA_of a1 zgx0
  obtain ⟨v2, c2, d2, r2, o2, n2'⟩ := cI ygx0
  obtain ⟨t2, h2, s2, e2, a2, u2, w2, f2, m2⟩ := own_call (h := h1) (args := [t1, .int .i64 n1]) (by simp only [pureDAs, mapO, pureDA_int, pureDA_bool, pureDA_str, pureDA_agg, pureD_intv, pureD_boolv, pureD_strv, Option.map_some, zgx0, xgx0]) r2 o2 n2'
  have b2 := own_ids a2 w2
  have o1x := OwnF_frame _ a1 (fun j hj => f2 j (OwnF_lt _ a1 j hj))
  obtain ⟨qgagR, zgagR, ygagR⟩ := OwnF_pure (.sub fdEntry) 6 (by decide) a2
  have xgagR := pureDA_of a2 zgagR
  have Ega := call_bool (h := h2) (args := [t2, w]) (by simp only [pureDAs, mapO, zgagR, xgagR, pureDA_pur gw]) (run_eqEntryS 54 ygagR gw C1)
  obtain ⟨v3, c3, d3, r3, o3, n3'⟩ := run_toEntryS 54 g0 P0.1 P0.2
  obtain ⟨t3, h3, s3, e3, a3, u3, w3, f3, m3⟩ := own_call (h := h2) (args := [(.sl cl0 2 ct0)]) (by simp only [pureDAs, mapO, pureDA_pur g0]) r3 o3 n3'
  have b3 := own_ids a3 w3
  have o2x := OwnF_frame _ o1x (fun j hj => f3 j (OwnF_lt _ o1x j hj))
  have o3x := OwnF_frame _ a2 (fun j hj => f3 j (OwnF_lt _ a2 j hj))
  obtain ⟨qA0x0, zA0x0, yA0x0⟩ := OwnF_pure (.sub fdEntry) 6 (by decide) o2x
  have xA0x0 := pureDA_of o2x zA0x0
  obtain ⟨qB0y0, zB0y0, yB0y0⟩ := OwnF_pure (.sub fdEntry) 6 (by decide) a3
  have xB0y0 := pureDA_of a3 zB0y0
  have EA0 := call_bool (h := h3) (args := [t1, t3]) (by simp only [pureDAs, mapO, pureDA_int, pureDA_bool, pureDA_str, pureDA_agg, pureD_intv, pureD_boolv, pureD_strv, Option.map_some, zA0x0, xA0x0, zB0y0, xB0y0]) (run_eqEntryS 54 yA0x0 yB0y0 M0)
  obtain ⟨h4, zmx0, e4, a4, k4, z4x, f4', m4⟩ := run_markEntryS 56 o2x u1 M0 (k := (1 : Int)) (by omega) (by omega)
  have f4 : ∀ j, j < h3.length → j ∉ s1 → h4[j]? = h3[j]? := fun j _ hj => f4' j hj
  have o4x := OwnF_frame _ o3x (fun j hj => f4 j (by have z := b2 j hj; first | omega | (have := OwnF_lt _ o3x j hj; omega)) (fun hm => by have z1 := b2 j hj; have z2 := b1 j hm; omega))
  have K0 : (((1 : Int) + cntF (.sub fdEntry) (.sub x0)) < 0) = False := eq_false (by omega)
  obtain ⟨qgbgR, zgbgR, ygbgR⟩ := OwnF_pure (.sub fdEntry) 6 (by decide) o4x
  have xgbgR := pureDA_of o4x zgbgR
  have Egb := call_bool (h := h4) (args := [t2, w]) (by simp only [pureDAs, mapO, zgbgR, xgbgR, pureDA_pur gw]) (run_eqEntryS 54 ygbgR gw C1)
  obtain ⟨h5, zG, e5, a5, k5, z5x, f5', m5⟩ := run_markEntryS 56 o4x u2 C1 (k := 1) (by omega) (by omega)
  have f5 : ∀ j, j < h4.length → j ∉ s2 → h5[j]? = h4[j]? := fun j _ hj => f5' j hj
  have o5x := OwnF_frame _ a4 (fun j hj => f5 j (by have z := b1 j hj; first | omega | (have := OwnF_lt _ a4 j hj; omega)) (fun hm => by have z1 := b1 j hj; have z2 := b2 j hm; omega))
  have K1 : (((1 : Int) + cntF (.sub fdEntry) (.sub ux)) < 0) = False := eq_false (by omega)
  obtain ⟨qhagR, zhagR, yhagR⟩ := OwnF_pure (.sub fdEntry) 6 (by decide) a5
  have xhagR := pureDA_of a5 zhagR
  have Eha := call_int (h := h5) (args := [t2, .int .i64 1]) (by simp only [pureDAs, mapO, pureDA_int, pureDA_bool, pureDA_str, pureDA_agg, pureD_intv, pureD_boolv, pureD_strv, Option.map_some, zhagR, xhagR]) (run_heldEntryS 56 yhagR k5 (by omega) (by omega) z5x)
  obtain ⟨v6, c6, d6, r6, o6, n6'⟩ := run_toEntryS 54 g0 P0.1 P0.2
  obtain ⟨t6, h6, s6, e6, a6, u6, w6, f6, m6⟩ := own_call (h := h5) (args := [(.sl cl0 2 ct0)]) (by simp only [pureDAs, mapO, pureDA_pur g0]) r6 o6 n6'
  have b6 := own_ids a6 w6
  have o6x := OwnF_frame _ a5 (fun j hj => f6 j (OwnF_lt _ a5 j hj))
  obtain ⟨qkh0, zkh0, ykh0⟩ := OwnF_pure (.sub fdEntry) 6 (by decide) a6
  have xkh0 := pureDA_of a6 zkh0
  obtain ⟨v7, c7, d7, r7, o7, n7'⟩ := cI ykh0
  obtain ⟨t7, h7, s7, e7, a7, u7, w7, f7, m7⟩ := own_call (h := h6) (args := [t6, .int .i64 n1]) (by simp only [pureDAs, mapO, pureDA_int, pureDA_bool, pureDA_str, pureDA_agg, pureD_intv, pureD_boolv, pureD_strv, Option.map_some, zkh0, xkh0]) r7 o7 n7'
  have b7 := own_ids a7 w7
  have o7x := OwnF_frame _ o6x (fun j hj => f7 j (OwnF_lt _ o6x j hj))
  have o8x := OwnF_frame _ a6 (fun j hj => f7 j (OwnF_lt _ a6 j hj))
  obtain ⟨qgckR, zgckR, ygckR⟩ := OwnF_pure (.sub fdEntry) 6 (by decide) a7
  have xgckR := pureDA_of a7 zgckR
  have Egc := call_bool (h := h7) (args := [t7, w]) (by simp only [pureDAs, mapO, zgckR, xgckR, pureDA_pur gw]) (run_eqEntryS 54 ygckR gw C1)
  obtain ⟨qhbgR, zhbgR, yhbgR⟩ := OwnF_pure (.sub fdEntry) 6 (by decide) o7x
  have xhbgR := pureDA_of o7x zhbgR
  have Ehb := call_int (h := h7) (args := [t2, .int .i64 1]) (by simp only [pureDAs, mapO, pureDA_int, pureDA_bool, pureDA_str, pureDA_agg, pureD_intv, pureD_boolv, pureD_strv, Option.map_some, zhbgR, xhbgR]) (run_heldEntryS 56 yhbgR k5 (by omega) (by omega) z5x)
  simp -implicitDefEqProofs (disch := omega) only [go_sem, Nat.reduceBEq, Nat.reduceAdd, Nat.reduceSub, Nat.reduceMul, Nat.reduceLeDiff, Nat.reduceEqDiff, Nat.reduceLT, Int.reduceNeg, Int.reduceAdd, Int.reduceSub, Int.reduceMul, Int.reduceLE, Int.reduceLT, Int.reduceEq, Int.reduceToNat, reduceCtorEq, z0, q0, K0, K1, e0, eW, e1, e2, Ega, e3, EA0, e4, Egb, e5, Eha, e6, e7, Egc, Ehb]
  exact ⟨_, rfl⟩
end Go.Proofs.Yteaojpfofifmnaa.PE
/- Arguments of any plain kind, as they are read: values of the evaluator. -/
set_option linter.unusedVariables false
set_option linter.unusedSimpArgs false
namespace Go.Proofs.Yteaojpfofifmnaa.PE
open Go.RowKit

mutual
def tyF (P : Program) : Nat → TypeId → Fd → Bool
  | 0, _, _ => false
  | n + 1, t, .int k => match P.underlying t with
    | some (.int k') => decide (k' = k)
    | _ => false
  | n + 1, t, .bool => match P.underlying t with
    | some .bool => true
    | _ => false
  | n + 1, t, .str => match P.underlying t with
    | some .string => true
    | _ => false
  | n + 1, t, .sub fs => match P.underlying t with
    | some (.slice e) => decide (P.cellsOf e = fs.length) && decide (0 < fs.length) && tyR P n e fs
    | _ => false
def tyR (P : Program) : Nat → TypeId → List Fd → Bool
  | 0, _, _ => false
  | n + 1, t, fs => match P.underlying t with
    | some (.struct flds) => decide (P.cellsOf t = fs.length) && tyS P n flds.toList 0 fs
    | _ => match fs with
      | [f] => tyF P n t f
      | _ => false
def tyS (P : Program) : Nat → List Field → Nat → List Fd → Bool
  | 0, _, _, _ => false
  | n + 1, [], _, fs => fs.isEmpty
  | n + 1, fl :: r, off, fs => decide (fl.offset = off) && tyR P n fl.type (fs.take (P.cellsOf fl.type)) && decide (P.cellsOf fl.type ≤ fs.length) && tyS P n r (off + P.cellsOf fl.type) (fs.drop (P.cellsOf fl.type))
end

def B63 : Nat := 9223372036854775807
section
variable {H : Type} {enc : TypeId × Value → H} {P : Program} {w : World} {base : Nat} {spare : Nat → Bool} {held : Bool}

/-- Cells and what they are. -/
def Got (w : World) (fs : List Fd) (cs : List Value) : Prop := ∃ (ps : List V) (us : List U), PurR fs ps us ∧ LenR B63 B63 fs us ∧ ps.length = cs.length ∧ ∀ (i : Nat) (y : V), ps[i]? = some y → ∃ u, cs[i]? = some u ∧ Rep w (fun b => b < w.heap.size) u y
theorem Got.one {f : Fd} {v : Value} {p : V} {u : U} (h1 : PurF f p u) (h2 : LenF B63 B63 f u) (h3 : Rep w (fun b => b < w.heap.size) v p) : Got w [f] [v] := by
  refine ⟨[p], [u], by simp only [PurR]; exact ⟨p, [], u, [], rfl, rfl, h1, rfl, rfl⟩, by simp only [LenR]; exact ⟨h2, trivial⟩, rfl, fun i y hy => ?_⟩
  cases i with
  | zero => simp at hy; subst hy; exact ⟨v, rfl, h3⟩
  | succ i => simp at hy
theorem PurR_len : ∀ {fs : List Fd} {ps : List V} {us : List U}, PurR fs ps us → ps.length = fs.length ∧ us.length = fs.length
  | [], _, _, h => by simp only [PurR] at h; rw [h.1, h.2]; exact ⟨rfl, rfl⟩
  | f :: fs, _, _, h => by
    simp only [PurR] at h
    obtain ⟨v, c', u, x', rfl, rfl, _, h2⟩ := h
    have := PurR_len h2
    simp [this.1, this.2]
theorem PurR_app : ∀ {f1 f2 : List Fd} {p1 p2 : List V} {u1 u2 : List U}, PurR f1 p1 u1 → PurR f2 p2 u2 → PurR (f1 ++ f2) (p1 ++ p2) (u1 ++ u2)
  | [], _, _, _, _, _, h, h2 => by simp only [PurR] at h; rw [h.1, h.2]; exact h2
  | f :: f1, f2, _, p2, _, u2, h, h2 => by
    simp only [PurR] at h
    obtain ⟨v, c', u, x', rfl, rfl, h3, h4⟩ := h
    show PurR (f :: (f1 ++ f2)) _ _
    simp only [PurR]
    exact ⟨v, c' ++ p2, u, x' ++ u2, rfl, rfl, h3, PurR_app h4 h2⟩
theorem LenR_app {n m : Nat} : ∀ {f1 f2 : List Fd} {u1 u2 : List U}, u1.length = f1.length → LenR n m f1 u1 → LenR n m f2 u2 → LenR n m (f1 ++ f2) (u1 ++ u2)
  | [], _, u1, _, hl, _, h2 => by
    have : u1 = [] := List.eq_nil_of_length_eq_zero hl
    subst this
    exact h2
  | f :: f1, f2, u :: u1, u2, hl, h, h2 => by
    show LenR n m (f :: (f1 ++ f2)) (u :: (u1 ++ u2))
    simp only [LenR] at h ⊢
    exact ⟨h.1, LenR_app (by simpa using hl) h.2 h2⟩
  | _ :: _, _, [], _, hl, _, _ => by simp at hl
theorem Got.app {f1 f2 : List Fd} {c1 c2 : List Value} (h1 : Got w f1 c1) (h2 : Got w f2 c2) : Got w (f1 ++ f2) (c1 ++ c2) := by
  obtain ⟨p1, u1, a1, a2, a3, a4⟩ := h1
  obtain ⟨p2, u2, b1, b2, b3, b4⟩ := h2
  refine ⟨p1 ++ p2, u1 ++ u2, PurR_app a1 b1, LenR_app (PurR_len a1).2 a2 b2, by simp [a3, b3], fun i y hy => ?_⟩
  rcases Nat.lt_or_ge i p1.length with hi | hi
  · rw [List.getElem?_append_left hi] at hy
    obtain ⟨u, hu, hr⟩ := a4 i y hy
    exact ⟨u, by rw [List.getElem?_append_left (by omega)]; exact hu, hr⟩
  · rw [List.getElem?_append_right hi] at hy
    obtain ⟨u, hu, hr⟩ := b4 _ y hy
    exact ⟨u, by rw [List.getElem?_append_right (by omega), ← a3]; exact hu, hr⟩

theorem plain_addr {a : Addr} {v : Value} (h : w.cell? a = some v) : ∃ g o, a = ⟨g, o, none⟩ ∧ g < w.heap.size := by
  obtain ⟨g, o, sp⟩ := a
  unfold World.cell? at h
  have hg : g < w.heap.size := by
    rcases Nat.lt_or_ge g w.heap.size with h1 | h1
    · exact h1
    · rw [Array.getElem?_eq_none h1] at h; cases sp <;> simp at h
  cases sp with
  | none => exact ⟨g, o, rfl, hg⟩
  | some s => simp at h; split at h <;> cases h

/-- A slice out of its elements. -/
theorem got_slice {fs : List Fd} {a : Addr} {len cap : Nat} (hpos : 0 < fs.length) (hl : len ≤ cap) (hm : cap ≤ maxLen) (hx : ∀ i, i < len → ∃ cs', w.cells? base (a.add (i * fs.length)) fs.length = some cs' ∧ Got w fs cs') :
    Got w [.sub fs] [.slice (some a) len cap] := by
  have hx' : ∀ i, i < len → ∃ q : List V × List U × List Value, w.cells? base (a.add (i * fs.length)) fs.length = some q.2.2 ∧ PurR fs q.1 q.2.1 ∧ LenR B63 B63 fs q.2.1 ∧ q.1.length = q.2.2.length ∧ ∀ (j : Nat) (y : V), q.1[j]? = some y → ∃ u, q.2.2[j]? = some u ∧ Rep w (fun b => b < w.heap.size) u y := by
    intro i hi
    obtain ⟨cs', h1, ps, us, h2, h3, h4, h5⟩ := hx i hi
    exact ⟨(ps, us, cs'), h1, h2, h3, h4, h5⟩
  obtain ⟨q, hq⟩ := Go.Deep.choose_lt hx'
  have hzip : ∀ (n : Nat), n ≤ len → Zip2 (PurR fs) ((List.range n).map fun i => (q i).1) ((List.range n).map fun i => (q i).2.1) ∧ AllU (LenR B63 B63 fs) ((List.range n).map fun i => (q i).2.1) := by
    have z2 : ∀ {l1 : List (List V)} {l2 : List (List U)} {c : List V} {x : List U}, Zip2 (PurR fs) l1 l2 → PurR fs c x → Zip2 (PurR fs) (l1 ++ [c]) (l2 ++ [x]) := by
      intro l1
      induction l1 with
      | nil => intro l2 c x h hc; cases l2 with
        | nil => exact ⟨hc, trivial⟩
        | cons b bs => exact h.elim
      | cons a l1 ih => intro l2 c x h hc; cases l2 with
        | nil => exact h.elim
        | cons b bs => exact ⟨h.1, ih h.2 hc⟩
    have a2 : ∀ {l2 : List (List U)} {x : List U}, AllU (LenR B63 B63 fs) l2 → LenR B63 B63 fs x → AllU (LenR B63 B63 fs) (l2 ++ [x]) := by
      intro l2
      induction l2 with
      | nil => intro x _ hx; exact ⟨hx, trivial⟩
      | cons b bs ih => intro x h hx; exact ⟨h.1, ih h.2 hx⟩
    intro n
    induction n with
    | zero => intro _; exact ⟨trivial, trivial⟩
    | succ n ih =>
      intro hn
      obtain ⟨i1, i2⟩ := ih (by omega)
      obtain ⟨_, b1, b2, _⟩ := hq n (by omega)
      rw [List.range_succ, List.map_append, List.map_append]
      exact ⟨z2 i1 b1, a2 i2 b2⟩
  obtain ⟨z1, z2⟩ := hzip len (Nat.le_refl _)
  have hml : maxLen = 9223372036854775807 := by decide
  refine Got.one (p := .sl false fs.length ((List.range len).map fun i => (q i).1)) (u := .sub ((List.range len).map fun i => (q i).2.1)) ?_ ?_ ?_
  · simp only [PurF]
    exact ⟨false, _, _, rfl, rfl, z1⟩
  · simp only [LenF, List.length_map, List.length_range]
    exact ⟨by unfold B63; omega, z2⟩
  · have hlen : ∀ j x, ((List.range len).map fun i => (q i).1)[j]? = some x → j < len ∧ x = (q j).1 := by
      intro j x hx
      rw [List.getElem?_map] at hx
      obtain ⟨k, hk, rfl⟩ := Option.map_eq_some_iff.1 hx
      have hj : j < len := by
        have := (List.getElem?_eq_some_iff.1 hk).1
        simpa using this
      rw [List.getElem?_range hj] at hk
      injection hk with hk
      subst hk
      exact ⟨hj, rfl⟩
    have hcell : ∀ (j c : Nat) (y : V), j < len → (q j).1[c]? = some y → ∃ u, (q j).2.2[c]? = some u ∧ w.cell? ((a.add (j * fs.length)).add c) = some u ∧ Rep w (fun b => b < w.heap.size) u y := by
      intro j c y hj hy
      obtain ⟨h1, h2, h3, h4, h5⟩ := hq j hj
      obtain ⟨_, h6, h7⟩ := World.cells?_some h1
      obtain ⟨u, hu, hr⟩ := h5 c y hy
      have hc : c < fs.length := by
        have := (List.getElem?_eq_some_iff.1 hu).1
        omega
      exact ⟨u, hu, (h7 c hc).trans hu, hr⟩
    refine Rep.sl (some a) len cap false _ fs.length (fun j c => ((q j).2.2[c]?).getD undef) (by simp) hl (fun e => by cases e) hpos (fun x hx => ?_) (fun hn => ?_) (fun j c x y hx hy => ?_)
    · obtain ⟨j, hj⟩ := List.getElem?_of_mem hx
      obtain ⟨h1, rfl⟩ := hlen j x hj
      exact (PurR_len (hq j h1).2.1).1
    · have h0 := (PurR_len (hq 0 hn).2.1).1
      have hy0 : (q 0).1[0]? = some (q 0).1[0] := List.getElem?_eq_getElem (by omega)
      obtain ⟨u0, _, c0, _⟩ := hcell 0 0 _ hn hy0
      rw [Nat.zero_mul] at c0
      have ha : (a.add 0).add 0 = a := by simp [Addr.add]
      rw [ha] at c0
      obtain ⟨g, o, rfl, hg⟩ := plain_addr c0
      refine ⟨g, o, rfl, hg, fun j c x y hx hy => ?_⟩
      obtain ⟨h1, rfl⟩ := hlen j x hx
      obtain ⟨u, hu, hc, _⟩ := hcell j c y h1 hy
      rw [add0, add0] at hc
      rw [hc, hu]
      rfl
    · obtain ⟨h1, rfl⟩ := hlen j x hx
      obtain ⟨u, hu, _, hr⟩ := hcell j c y h1 hy
      show Rep w _ (((q j).2.2[c]?).getD undef) y
      rw [hu]
      exact hr

mutual
theorem gotF : ∀ (n : Nat) {t : TypeId} {f : Fd} {fuel : Nat} {cs : List Value} {x : DataW H × List MemPlace}, tyF P n t f = true → DataW.trod enc P w base spare held fuel t cs = some x → Got w [f] cs
  | 0, _, _, _, _, _, ht, _ => by simp [tyF] at ht
  | n + 1, t, .int k, fuel, cs, x, ht, h => by
    simp only [tyF] at ht
    split at ht
    · rename_i k' hu
      simp only [decide_eq_true_eq] at ht
      subst ht
      obtain ⟨m, rfl, _, _⟩ := DataW.trod_int hu h
      exact Got.one (p := .int k' m) (u := .int m) (by simp only [PurF]; exact ⟨m, rfl, rfl⟩) (by simp [LenF]) (.int _ _)
    · cases ht
  | n + 1, t, .bool, fuel, cs, x, ht, h => by
    simp only [tyF] at ht
    split at ht
    · rename_i hu
      obtain ⟨m, rfl, _⟩ := DataW.trod_bool hu h
      exact Got.one (p := .bool m) (u := .bool m) (by simp only [PurF]; exact ⟨m, rfl, rfl⟩) (by simp [LenF]) (.bool _)
    · cases ht
  | n + 1, t, .str, fuel, cs, x, ht, h => by
    simp only [tyF] at ht
    split at ht
    · rename_i hu
      obtain ⟨m, rfl, _, hm⟩ := DataW.trod_string hu h
      have hml : maxLen = 9223372036854775807 := by decide
      exact Got.one (p := .str m) (u := .str m) (by simp only [PurF]; exact ⟨m, rfl, rfl⟩) (by simp only [LenF]; unfold B63; omega) (.str _)
    · cases ht
  | n + 1, t, .sub fs, fuel, cs, x, ht, h => by
    simp only [tyF] at ht
    split at ht
    · rename_i e hu
      simp only [Bool.and_eq_true, decide_eq_true_eq] at ht
      obtain ⟨⟨hc, hpos⟩, hr⟩ := ht
      rcases Go.Deep.open_slice hu h with ⟨rfl, _⟩ | ⟨a, len, cap, m, k, D, Pl, rfl, hb, hl, hm, hmm, _, hx⟩
      · exact Got.one (p := .sl true fs.length []) (u := .sub []) (by rw [PurF]; exact ⟨true, [], [], rfl, rfl, trivial⟩) (by simp only [LenF]; exact ⟨Nat.zero_le _, trivial⟩) (rep_empty hpos (fun _ => rfl))
      · refine got_slice (base := base) hpos hl hm (fun i hi => ?_)
        obtain ⟨cs', h1, h2⟩ := hx i (by rw [hmm]; split <;> omega)
        rw [hc] at h1
        exact ⟨cs', h1, gotR n hr h2⟩
    · cases ht
theorem gotR : ∀ (n : Nat) {t : TypeId} {fs : List Fd} {fuel : Nat} {cs : List Value} {x : DataW H × List MemPlace}, tyR P n t fs = true → DataW.trod enc P w base spare held fuel t cs = some x → Got w fs cs
  | 0, _, _, _, _, _, ht, _ => by simp [tyR] at ht
  | n + 1, t, fs, fuel, cs, x, ht, h => by
    simp only [tyR] at ht
    split at ht
    · rename_i flds hu
      simp only [Bool.and_eq_true, decide_eq_true_eq] at ht
      obtain ⟨xs, k, _, _, hcl, hxl, hf⟩ := DataW.trod_struct hu h
      refine gotS n (cs := cs) (off := 0) (fuel := k) ht.2 (by omega) (fun i fl hi => ?_)
      have hlt : i < xs.length := by
        have := (List.getElem?_eq_some_iff.1 hi).1
        simp at this
        omega
      rw [Array.getElem?_toList] at hi
      exact ⟨xs[i], by rw [hf i fl hi, List.getElem?_eq_getElem hlt]⟩
    · split at ht
      · rename_i f
        exact gotF n ht h
      · cases ht
theorem gotS : ∀ (n : Nat) {flds : List Field} {off : Nat} {fs : List Fd} {fuel : Nat} {cs : List Value}, tyS P n flds off fs = true → cs.length = off + fs.length → (∀ (i : Nat) (fl : Field), flds[i]? = some fl → ∃ x, DataW.trod enc P w base spare held fuel fl.type ((cs.drop fl.offset).take (P.cellsOf fl.type)) = some x) → Got w fs (cs.drop off)
  | 0, _, _, _, _, _, ht, _, _ => by simp [tyS] at ht
  | n + 1, [], off, fs, fuel, cs, ht, hl, _ => by
    simp only [tyS, List.isEmpty_iff] at ht
    subst ht
    rw [List.drop_of_length_le (by simp at hl; omega)]
    exact ⟨[], [], by simp [PurR], by simp [LenR], rfl, fun i y hy => by simp at hy⟩
  | n + 1, fl :: r, off, fs, fuel, cs, ht, hl, hx => by
    simp only [tyS, Bool.and_eq_true, decide_eq_true_eq] at ht
    obtain ⟨⟨⟨ho, h1⟩, hle⟩, h2⟩ := ht
    obtain ⟨x, hx0⟩ := hx 0 fl rfl
    rw [ho] at hx0
    have g1 := gotR n h1 hx0
    have g2 := gotS n (cs := cs) (off := off + P.cellsOf fl.type) h2 (by rw [List.length_drop]; omega) (fun i f hi => hx (i + 1) f (by simpa using hi))
    have g := g1.app g2
    rw [List.take_append_drop] at g
    rw [← List.drop_drop, List.take_append_drop] at g
    exact g
end
/-- An argument of a slice's type. -/
theorem got_arg {t : TypeId} {fs : List Fd} {v : Value} {d : DataW H} {ps : List MemPlace} (n : Nat) (ht : tyF P n t (.sub fs) = true) (h : DataW.Trod enc P w base spare held t v d ps) (hv : v.cells = #[v]) :
    ∃ p xs, Rep w (fun b => b < w.heap.size) v p ∧ PurF (.sub fs) p (.sub xs) ∧ LenF B63 B63 (.sub fs) (.sub xs) := by
  obtain ⟨fuel, h⟩ := h
  obtain ⟨ps, us, h1, h2, h3, h4⟩ := gotF n ht h
  simp only [PurR] at h1
  obtain ⟨p, _, u, _, rfl, rfl, g, rfl, rfl⟩ := h1
  simp only [LenR] at h2
  obtain ⟨u', hu, hr⟩ := h4 0 p rfl
  rw [hv] at hu
  simp at hu
  subst hu
  have g' := g
  simp only [PurF] at g'
  obtain ⟨_, _, xs, _, rfl, _⟩ := g'
  exact ⟨p, xs, hr, g, h2.1⟩
end
end Go.Proofs.Yteaojpfofifmnaa.PE
