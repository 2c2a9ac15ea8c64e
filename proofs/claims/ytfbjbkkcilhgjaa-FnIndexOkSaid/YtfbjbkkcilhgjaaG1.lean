/- Texts of this claim, one behind the other: Pvo, Pj7, Pj8, Pr0. -/
import Derived.Test.YtfbjbkkcilhgjaaG0
import Derived.Test.YtfbjbkkcilhgjaaPeX
/- The order of values is an order. -/
set_option linter.unusedSimpArgs false
set_option linter.unusedVariables false
namespace Go.Proofs.Ytfbjbkkcilhgjaa.PE
open Go.RowKit

def ltB (a b : ByteArray) : Prop := a.data.toList < b.data.toList
theorem ltS_iff (a b : ByteArray) : ltS a b = true ↔ ltB a b := by simp [ltS, ltB]
theorem ltB_asymm {a b : ByteArray} (h : ltB a b) : ¬ ltB b a := List.lt_asymm h
theorem ltB_trans {a b c : ByteArray} (h : ltB a b) (h' : ltB b c) : ltB a c := List.lt_trans h h'
theorem ltB_tri {a b : ByteArray} (h : ¬ ltB a b) (h' : ¬ ltB b a) : a = b := by
  have := str_gt a b
  by_cases e : a = b
  · exact e
  · exfalso
    rw [show ltS a b = false from by rw [← Bool.not_eq_true, ltS_iff]; exact h, show ltS b a = false from by rw [← Bool.not_eq_true, ltS_iff]; exact h'] at this
    simp [e] at this
theorem cmpS_lt (a b : ByteArray) : cmpS a b < 0 ↔ ltB a b := by
  unfold cmpS
  rw [← ltS_iff]
  split
  · simp [*]
  · split <;> simp [*]
theorem cmpS_gt (a b : ByteArray) : 0 < cmpS a b ↔ ltB b a := by
  unfold cmpS
  rw [← ltS_iff]
  split
  · rename_i h
    have : ¬ ltB b a := ltB_asymm ((ltS_iff a b).1 h)
    rw [← ltS_iff] at this
    simp [this]
  · split <;> simp [*]
theorem cmpI_lt (a b : Int) : cmpI a b < 0 ↔ a < b := by unfold cmpI; split <;> (try split) <;> omega
theorem cmpI_gt (a b : Int) : 0 < cmpI a b ↔ b < a := by unfold cmpI; split <;> (try split) <;> omega
theorem cmpI_eq (a b : Int) : cmpI a b = 0 ↔ a = b := by unfold cmpI; split <;> (try split) <;> omega

def Val.lt (v w : Val) : Prop := v.kind < w.kind ∨ v.kind = w.kind ∧ (v.n < w.n ∨ v.n = w.n ∧ ltB v.s w.s)
theorem Val.lt_asymm {v w : Val} (h : v.lt w) : ¬ w.lt v := by
  unfold Val.lt at *
  rintro (h1 | ⟨h1, h2 | ⟨h2, h3⟩⟩)
  · omega
  · omega
  · rcases h with h | ⟨h, h4 | ⟨h4, h5⟩⟩
    · omega
    · omega
    · exact ltB_asymm h5 h3
theorem Val.lt_trans {v w x : Val} (h : v.lt w) (h' : w.lt x) : v.lt x := by
  unfold Val.lt at *
  rcases h with h | ⟨h, h4 | ⟨h4, h5⟩⟩ <;> rcases h' with h' | ⟨h', h6 | ⟨h6, h7⟩⟩
  all_goals first | (left; omega) | (right; refine ⟨by omega, ?_⟩; first | (left; omega) | (right; exact ⟨by omega, ltB_trans h5 h7⟩))
theorem Val.tri {v w : Val} (h : ¬ v.lt w) (h' : ¬ w.lt v) : v = w := by
  unfold Val.lt at *
  have e1 : v.kind = w.kind := by
    rcases Int.lt_trichotomy v.kind w.kind with h1 | h1 | h1
    · exact absurd (.inl h1) h
    · exact h1
    · exact absurd (.inl h1) h'
  have e2 : v.n = w.n := by
    rcases Int.lt_trichotomy v.n w.n with h1 | h1 | h1
    · exact absurd (.inr ⟨e1, .inl h1⟩) h
    · exact h1
    · exact absurd (.inr ⟨e1.symm, .inl h1⟩) h'
  have e3 : v.s = w.s := ltB_tri (fun h1 => h (.inr ⟨e1, .inr ⟨e2, h1⟩⟩)) (fun h1 => h' (.inr ⟨e1.symm, .inr ⟨e2.symm, h1⟩⟩))
  cases v; cases w
  simp_all
theorem Val.cmp_lt (v w : Val) : v.cmp w < 0 ↔ v.lt w := by
  unfold Val.cmp Val.lt
  have h1 := cmpI_lt v.kind w.kind
  have h2 := cmpI_eq v.kind w.kind
  have h3 := cmpI_lt v.n w.n
  have h4 := cmpI_eq v.n w.n
  have h5 := cmpS_lt v.s w.s
  split
  · rw [h1]
    constructor
    · exact fun h => .inl h
    · rintro (h | h)
      · exact h
      · exact absurd (h2.2 h.1) (by assumption)
  · have e1 : v.kind = w.kind := h2.1 (by omega)
    split
    · rw [h3]
      constructor
      · exact fun h => .inr ⟨e1, .inl h⟩
      · rintro (h | ⟨_, h | h⟩)
        · omega
        · exact h
        · exact absurd (h4.2 h.1) (by assumption)
    · have e2 : v.n = w.n := h4.1 (by omega)
      rw [h5]
      constructor
      · exact fun h => .inr ⟨e1, .inr ⟨e2, h⟩⟩
      · rintro (h | ⟨_, h | h⟩)
        · omega
        · omega
        · exact h.2
theorem Val.cmp_gt (v w : Val) : 0 < v.cmp w ↔ w.lt v := by
  unfold Val.cmp Val.lt
  have h1 := cmpI_gt v.kind w.kind
  have h2 := cmpI_eq v.kind w.kind
  have h3 := cmpI_gt v.n w.n
  have h4 := cmpI_eq v.n w.n
  have h5 := cmpS_gt v.s w.s
  split
  · rw [h1]
    constructor
    · exact fun h => .inl h
    · rintro (h | h)
      · exact h
      · exact absurd (h2.2 h.1.symm) (by assumption)
  · have e1 : v.kind = w.kind := h2.1 (by omega)
    split
    · rw [h3]
      constructor
      · exact fun h => .inr ⟨e1.symm, .inl h⟩
      · rintro (h | ⟨_, h | h⟩)
        · omega
        · exact h
        · exact absurd (h4.2 h.1.symm) (by assumption)
    · have e2 : v.n = w.n := h4.1 (by omega)
      rw [h5]
      constructor
      · exact fun h => .inr ⟨e1.symm, .inr ⟨e2.symm, h⟩⟩
      · rintro (h | ⟨_, h | h⟩)
        · omega
        · omega
        · exact h.2
theorem Val.cmp_eq (v w : Val) : v.cmp w = 0 ↔ v = w := by
  constructor
  · intro h
    refine Val.tri (fun h1 => ?_) (fun h1 => ?_)
    · rw [← Val.cmp_lt] at h1; omega
    · rw [← Val.cmp_gt] at h1; omega
  · rintro rfl
    have h1 : ¬ v.lt v := fun h => Val.lt_asymm h h
    have h2 := h1
    rw [← Val.cmp_lt] at h1
    rw [← Val.cmp_gt] at h2
    omega
end Go.Proofs.Ytfbjbkkcilhgjaa.PE
/- The law of indexes: what is drawn. -/
set_option linter.unusedSimpArgs false
set_option linter.unusedVariables false
set_option maxHeartbeats 4000000
set_option maxRecDepth 20000
namespace Go.Proofs.Ytfbjbkkcilhgjaa.PE
open Go.RowKit

theorem lessM_iff (a b : Mk) : lessM a b = true ↔ a.v.lt b.v ∨ a.v = b.v ∧ (a.key < b.key ∨ a.key = b.key ∧ a.born < b.born) := by
  unfold lessM
  have e1 := Val.cmp_lt a.v b.v
  have e2 := Val.cmp_eq a.v b.v
  by_cases h : a.v.cmp b.v = 0
  · have hne : ¬ a.v.lt b.v := fun hh => by have := e1.2 hh; omega
    rw [if_pos h]
    simp only [Bool.or_eq_true, Bool.and_eq_true, decide_eq_true_eq]
    exact ⟨fun hh => .inr ⟨e2.1 h, hh⟩, fun hh => hh.elim (fun x => absurd x hne) (fun x => x.2)⟩
  · rw [if_neg h]
    have hne : ¬ a.v = b.v := fun hh => h (e2.2 hh)
    rw [decide_eq_true_eq]
    exact ⟨fun hh => .inl (e1.1 hh), fun hh => hh.elim e1.2 (fun x => absurd x.1 hne)⟩
theorem lessM_trans {a b c : Mk} (h : lessM a b = true) (h' : lessM b c = true) : lessM a c = true := by
  rw [lessM_iff] at h h' ⊢
  rcases h with h | ⟨e, h⟩
  · rcases h' with h' | ⟨e', h'⟩
    · exact .inl (Val.lt_trans h h')
    · exact .inl (e' ▸ h)
  · rcases h' with h' | ⟨e', h'⟩
    · exact .inl (e ▸ h')
    · exact .inr ⟨e.trans e', by omega⟩
theorem marks_pw {l : List Mk} : (∀ i ∈ List.range l.length, markOk lessM lapS l i = true) ↔ (∀ m ∈ l, m.one = true) ∧ l.Pairwise (fun a b => lessM a b = true ∧ lapS b a = false) := by
  constructor
  · intro h
    refine ⟨marks_one h, ?_⟩
    have hk : ∀ i (hi : i < l.length), aheadOk lessM l i l[i] = true ∧ ∀ o ∈ l.take i, lapS l[i] o = false := by
      intro i hi
      have := h i (List.mem_range.2 hi)
      unfold markOk at this
      rw [List.getElem?_eq_getElem hi] at this
      simp only [Bool.and_eq_true, List.all_eq_true, Bool.not_eq_true'] at this
      exact this.2
    have step : ∀ i (hi : i + 1 < l.length), lessM l[i] l[i + 1] = true := by
      intro i hi
      have := (hk (i + 1) hi).1
      simp only [aheadOk, List.getElem?_eq_getElem (show i < l.length by omega)] at this
      exact this
    have far : ∀ n i (hi : i + n + 1 < l.length), lessM (l[i]'(by omega)) l[i + n + 1] = true := by
      intro n
      induction n with
      | zero => intro i hi; exact step i hi
      | succ n ih => intro i hi; exact lessM_trans (ih i (by omega)) (step (i + n + 1) hi)
    rw [List.pairwise_iff_getElem]
    intro i j hi hj hij
    refine ⟨?_, (hk j hj).2 _ ?_⟩
    · obtain ⟨n, rfl⟩ : ∃ n, j = i + n + 1 := ⟨j - i - 1, by omega⟩
      exact far n i hj
    · exact List.mem_of_getElem? (i := i) (by rw [List.getElem?_take, if_pos hij, List.getElem?_eq_getElem hi])
  · rintro ⟨h1, h2⟩ i hi
    have hi := List.mem_range.1 hi
    rw [List.pairwise_iff_getElem] at h2
    unfold markOk
    rw [List.getElem?_eq_getElem hi]
    simp only [Bool.and_eq_true, List.all_eq_true, Bool.not_eq_true']
    refine ⟨h1 _ (List.getElem_mem hi), ?_, fun o ho => ?_⟩
    · cases i with
      | zero => rfl
      | succ j =>
        simp only [aheadOk, List.getElem?_eq_getElem (show j < l.length by omega)]
        exact (h2 j (j + 1) (by omega) hi (by omega)).1
    · obtain ⟨k, hk⟩ := List.getElem?_of_mem ho
      rw [List.getElem?_take] at hk
      split at hk
      · rename_i hlt
        rw [List.getElem?_eq_getElem (show k < l.length by omega)] at hk
        injection hk with hk
        rw [← hk]
        exact (h2 k i (by omega) hi hlt).2
      · cases hk
theorem idxOk_iff (l : List Mk) : idxOk l = true ↔ ((∀ m ∈ l, m.one = true) ∧ l.Pairwise (fun a b => lessM a b = true ∧ lapS b a = false)) ∧ l.length ≤ 60 := by
  unfold idxOk
  rw [Bool.and_eq_true, List.all_eq_true, marks_pw, decide_eq_true_eq]
  constructor
  · rintro ⟨h1, h2⟩; exact ⟨h1, by omega⟩
  · rintro ⟨h1, h2⟩; exact ⟨h1, by omega⟩
theorem idxOk_sub {a l : List Mk} (hs : a.Sublist l) (h : idxOk l = true) : idxOk a = true := by
  rw [idxOk_iff] at h ⊢
  obtain ⟨⟨h1, h2⟩, h3⟩ := h
  exact ⟨⟨fun m hm => h1 m (hs.subset hm), h2.sublist hs⟩, Nat.le_trans hs.length_le h3⟩
-- find37
theorem run_drawIndexOk (d : Nat) (c : Bool) (bs : List UInt8) : ∃ (cl : Bool) (l : List Mk), retP (runD tab noExt (d + 11)) 37 [.sl c 1 (cellsOfBytes bs)] = some [.sl cl 6 (l.map Mk.cells)] ∧ ShortM l ∧ l.length ≤ 32 := by
  rw [retP, runD_eq find37 _ _ _ (by simp)]
  simp -implicitDefEqProofs only [go_sem, Nat.reduceBEq, Nat.reduceAdd, Nat.reduceSub, Nat.reduceMul, Nat.reduceLeDiff, Nat.reduceEqDiff, Nat.reduceLT, Int.reduceNeg, Int.reduceAdd, Int.reduceSub, Int.reduceMul, Int.reduceLE, Int.reduceLT, Int.reduceEq, Int.reduceToNat, reduceCtorEq]
  generalize hx : callS (runD tab noExt _) _ 55 _ true = X
  obtain ⟨c', bs', rfl, hb⟩ := ex_open hx rfl
  clear hx
  simp -implicitDefEqProofs only [go_sem, Nat.reduceBEq, Nat.reduceAdd, Nat.reduceSub, Nat.reduceMul, Nat.reduceLeDiff, Nat.reduceEqDiff, Nat.reduceLT, Int.reduceNeg, Int.reduceAdd, Int.reduceSub, Int.reduceMul, Int.reduceLE, Int.reduceLT, Int.reduceEq, Int.reduceToNat, reduceCtorEq]
  generalize hx : callS (runD tab noExt _) _ 95 _ false = X
  obtain ⟨cl, l, time, p', rfl, g1, g2, g3, g4, g5, g6⟩ := ex_index (hp := []) (t := []) hx (by omega) (by omega) hb rfl rfl
  clear hx
  simp -implicitDefEqProofs (disch := omega) only [go_sem, Nat.reduceBEq, Nat.reduceAdd, Nat.reduceSub, Nat.reduceMul, Nat.reduceLeDiff, Nat.reduceEqDiff, Nat.reduceLT, Int.reduceNeg, Int.reduceAdd, Int.reduceSub, Int.reduceMul, Int.reduceLE, Int.reduceLT, Int.reduceEq, Int.reduceToNat, reduceCtorEq]
  exact ⟨cl, l, rfl, g1, g2⟩
end Go.Proofs.Ytfbjbkkcilhgjaa.PE
/- The law of indexes. -/
set_option linter.unusedSimpArgs false
set_option linter.unusedVariables false
set_option maxHeartbeats 4000000
set_option maxRecDepth 20000
namespace Go.Proofs.Ytfbjbkkcilhgjaa.PE
open Go.RowKit

-- find7
theorem loop_lawIdx (c : Bool) (l : List Mk) (hs : l.length ≤ 32) (hok : idxOk l = true) : LoopS (runD tab noExt 60) (drawI (runD tab noExt 60)) [3, 4, 5] [2] L7x0 0 1099511627775 [(3, .sl c 6 (l.map Mk.cells)), (4, .bool true), (5, .int .i64 0)] [] = some (.exit 0, [(2, .undef)], []) := by
  obtain ⟨_, _, e⟩ := LoopS_inv (run := runD tab noExt 60) (draw := drawI (runD tab noExt 60)) (live := [3, 4, 5]) (out := [2]) (c := L7x0) (n0 := 0) l.length
      (fun i (_ : Unit) => True)
      (fun i _ => [(3, .sl c 6 (l.map Mk.cells)), (4, .bool true), (5, .int .i64 (i : Nat))]) (fun _ => []) (fun _ => some (.exit 0, [(2, .undef)], []))
      (fun b K hb => by
        rw [LoopS_eq]
        simp -implicitDefEqProofs (disch := omega) only [go_sem, Nat.reduceBEq, Nat.reduceAdd, Nat.reduceSub, Nat.reduceMul, Nat.reduceLeDiff, Nat.reduceEqDiff, Nat.reduceLT, Int.reduceNeg, Int.reduceAdd, Int.reduceSub, Int.reduceMul, Int.reduceLE, Int.reduceLT, Int.reduceEq, Int.reduceToNat, reduceCtorEq, evL7x0, B7x0, Int.lt_irrefl]) (fun i b K hi _ => by
        refine ⟨(), trivial, ?_⟩
        have hsub : (l.take i ++ l.drop (i + 1)).Sublist l := by
          have h := (List.Sublist.refl (l.take i)).append (List.drop_sublist_drop_left l (show i ≤ i + 1 by omega))
          rw [List.take_append_drop] at h
          exact h
        have hI := run_idxI 53 false (l.take i ++ l.drop (i + 1)) (by have := hsub.length_le; omega)
        rw [idxOk_sub hsub hok, List.map_append, List.map_take, List.map_drop] at hI
        have td : List.take (l.length - (i + 1)) (List.drop (i + 1) (List.map Mk.cells l)) = List.drop (i + 1) (List.map Mk.cells l) := List.take_of_length_le (by simp)
        have ldr : (List.drop (i + 1) (List.map Mk.cells l)).length = l.length - (i + 1) := by simp
        have lt : (List.take i (List.map Mk.cells l)).length = i := by rw [List.length_take, List.length_map]; omega
        have tt : List.take (i + (l.length - (i + 1))) (List.take i (List.map Mk.cells l) ++ List.drop (i + 1) (List.map Mk.cells l)) = List.take i (List.map Mk.cells l) ++ List.drop (i + 1) (List.map Mk.cells l) := List.take_of_length_le (by rw [List.length_append, lt, ldr]; omega)
        have hi' : (i : Int) < l.length := by omega
        have s0 : (i : Int) ≤ l.length := by omega
        have s1 : (i : Int) + 1 ≤ l.length := by omega
        have s2 : i < 4294967296 := by omega
        have s3 : i + (l.length - (i + 1)) < 4294967296 := by omega
        have sp : (0 : Int) ≤ (i : Int) + 1 := by omega
        have tn : ((i : Int) + 1).toNat = i + 1 := by omega
        rw [LoopS_eq]
        simp -implicitDefEqProofs (disch := omega) only [go_sem, Nat.reduceBEq, Nat.reduceAdd, Nat.reduceSub, Nat.reduceMul, Nat.reduceLeDiff, Nat.reduceEqDiff, Nat.reduceLT, Int.reduceNeg, Int.reduceAdd, Int.reduceSub, Int.reduceMul, Int.reduceLE, Int.reduceLT, Int.reduceEq, Int.reduceToNat, reduceCtorEq, evL7x0, B7x0, evC_draw, evD7x0, E7x0, hi', s0, s1, s2, s3, sp, tn, td, ldr, lt, tt, hI, elemsOf, frzs, List.flatMap_nil, IntWalk.i64_in]) 1099511627775 (by omega) () trivial
  simp only [Int.natCast_zero] at e
  exact e
theorem law_IndexOk (b : List UInt8) (hl : b.length ≤ maxLen) : ∃ d h1, runD tab noExt d 7 [.sl false 1 (cellsOfBytes b)] [] = some ([.bool true], h1) := by
  refine ⟨61, ?_⟩
  rw [runD_eq find7 _ _ _ (by simp)]
  have ha := run_alive 55
  by_cases h0 : (1048576 : Int) < b.length
  · simp -implicitDefEqProofs (disch := omega) only [go_sem, Nat.reduceBEq, Nat.reduceAdd, Nat.reduceSub, Nat.reduceMul, Nat.reduceLeDiff, Nat.reduceEqDiff, Nat.reduceLT, Int.reduceNeg, Int.reduceAdd, Int.reduceSub, Int.reduceMul, Int.reduceLE, Int.reduceLT, Int.reduceEq, Int.reduceToNat, reduceCtorEq, ofBytes_len, h0]
    exact ⟨_, rfl⟩
  obtain ⟨cc, l, eD, hsh, hln⟩ := run_drawIndexOk 49 false b
  have eI := run_idxI 53 cc l (by omega)
  have eS := run_idxS 54 cc l (by omega) hsh
  have eN := run_idxI 53 true [] (by simp)
  have e0 : idxOk [] = true := by decide
  rw [e0] at eN
  simp only [List.map_nil] at eN
  cases ok : idxOk l
  · rw [ok] at eI eS
    have hL : LoopS (runD tab noExt 60) (drawI (runD tab noExt 60)) [3, 4, 5] [2] L7x0 0 1099511627775 [(3, .sl cc 6 (l.map Mk.cells)), (4, .bool false), (5, .int .i64 0)] [] = some (.exit 0, [(2, .undef)], []) := by
      rw [LoopS_eq]
      by_cases h1 : (0 : Int) < l.length
      · simp -implicitDefEqProofs (disch := omega) only [go_sem, Nat.reduceBEq, Nat.reduceAdd, Nat.reduceSub, Nat.reduceMul, Nat.reduceLeDiff, Nat.reduceEqDiff, Nat.reduceLT, Int.reduceNeg, Int.reduceAdd, Int.reduceSub, Int.reduceMul, Int.reduceLE, Int.reduceLT, Int.reduceEq, Int.reduceToNat, reduceCtorEq, evL7x0, B7x0, h1]
      · simp -implicitDefEqProofs (disch := omega) only [go_sem, Nat.reduceBEq, Nat.reduceAdd, Nat.reduceSub, Nat.reduceMul, Nat.reduceLeDiff, Nat.reduceEqDiff, Nat.reduceLT, Int.reduceNeg, Int.reduceAdd, Int.reduceSub, Int.reduceMul, Int.reduceLE, Int.reduceLT, Int.reduceEq, Int.reduceToNat, reduceCtorEq, evL7x0, B7x0, h1]
    simp -implicitDefEqProofs (disch := omega) only [go_sem, Nat.reduceBEq, Nat.reduceAdd, Nat.reduceSub, Nat.reduceMul, Nat.reduceLeDiff, Nat.reduceEqDiff, Nat.reduceLT, Int.reduceNeg, Int.reduceAdd, Int.reduceSub, Int.reduceMul, Int.reduceLE, Int.reduceLT, Int.reduceEq, Int.reduceToNat, reduceCtorEq, ofBytes_len, h0, eD, eI, eS]
    try simp -implicitDefEqProofs only [go_sem, Nat.reduceBEq, Nat.reduceAdd, Nat.reduceSub, Nat.reduceMul, Nat.reduceLeDiff, Nat.reduceEqDiff, Nat.reduceLT, Int.reduceNeg, Int.reduceAdd, Int.reduceSub, Int.reduceMul, Int.reduceLE, Int.reduceLT, Int.reduceEq, Int.reduceToNat, reduceCtorEq] at hL
    rw [hL]
    simp -implicitDefEqProofs (disch := omega) only [go_sem, Nat.reduceBEq, Nat.reduceAdd, Nat.reduceSub, Nat.reduceMul, Nat.reduceLeDiff, Nat.reduceEqDiff, Nat.reduceLT, Int.reduceNeg, Int.reduceAdd, Int.reduceSub, Int.reduceMul, Int.reduceLE, Int.reduceLT, Int.reduceEq, Int.reduceToNat, reduceCtorEq, eN, ha, elemsOf, frzs, List.flatMap_nil]
    exact ⟨_, rfl⟩
  · rw [ok] at eI eS
    have hL := loop_lawIdx cc l hln ok
    simp -implicitDefEqProofs (disch := omega) only [go_sem, Nat.reduceBEq, Nat.reduceAdd, Nat.reduceSub, Nat.reduceMul, Nat.reduceLeDiff, Nat.reduceEqDiff, Nat.reduceLT, Int.reduceNeg, Int.reduceAdd, Int.reduceSub, Int.reduceMul, Int.reduceLE, Int.reduceLT, Int.reduceEq, Int.reduceToNat, reduceCtorEq, ofBytes_len, h0, eD, eI, eS]
    try simp -implicitDefEqProofs only [go_sem, Nat.reduceBEq, Nat.reduceAdd, Nat.reduceSub, Nat.reduceMul, Nat.reduceLeDiff, Nat.reduceEqDiff, Nat.reduceLT, Int.reduceNeg, Int.reduceAdd, Int.reduceSub, Int.reduceMul, Int.reduceLE, Int.reduceLT, Int.reduceEq, Int.reduceToNat, reduceCtorEq] at hL
    rw [hL]
    simp -implicitDefEqProofs (disch := omega) only [go_sem, Nat.reduceBEq, Nat.reduceAdd, Nat.reduceSub, Nat.reduceMul, Nat.reduceLeDiff, Nat.reduceEqDiff, Nat.reduceLT, Int.reduceNeg, Int.reduceAdd, Int.reduceSub, Int.reduceMul, Int.reduceLE, Int.reduceLT, Int.reduceEq, Int.reduceToNat, reduceCtorEq, eN, ha, elemsOf, frzs, List.flatMap_nil]
    exact ⟨_, rfl⟩
end Go.Proofs.Ytfbjbkkcilhgjaa.PE
/- A list of bytes that comes in, as the evaluator reads it. -/
set_option linter.unusedVariables false
set_option linter.unusedSimpArgs false
namespace Go.Proofs.Ytfbjbkkcilhgjaa.PE
open Go.RowKit

def IsRow (w : World) (a : Option Addr) (len cap : Nat) : Prop :=
  (a = none ∧ len = 0 ∧ cap = 0) ∨
  ∃ (x : Addr) (zs : List Int), a = some x ∧ len ≤ cap ∧ cap ≤ maxLen ∧ zs.length = cap ∧ (∀ i, i < zs.length → w.cell? (x.add i) = some (.int .u8 (zs.getD i 0))) ∧ ∀ n ∈ zs, (Lit.int .u8 n).wf = true

theorem IsRow.rep {w : World} {a : Option Addr} {len cap : Nat} (h : IsRow w a len cap) : ∃ l : List UInt8, l.length ≤ maxLen ∧ RepA w (fun b => b < w.heap.size) (.slice a len cap) (.sl false 1 (cellsOfBytes l)) := by
  rcases h with ⟨rfl, rfl, rfl⟩ | ⟨x, zs, rfl, h1, h2, h3, h4, h5⟩
  · exact ⟨[], Nat.zero_le _, rep_empty (by decide) (fun h => by cases h)⟩
  · have hb : ∀ i, i < zs.length → 0 ≤ zs.getD i 0 ∧ zs.getD i 0 < 256 := fun i hi => by
      have := h5 (zs.getD i 0) (by rw [List.getD_eq_getElem?_getD, List.getElem?_eq_getElem hi]; exact List.getElem_mem hi)
      simp only [Lit.wf, decide_eq_true_eq] at this
      have h1 : IntKind.u8.min = 0 := rfl
      have h2 : IntKind.u8.max = 255 := rfl
      simp only [Bool.and_eq_true, decide_eq_true_eq, h1, h2] at this
      omega
    refine ⟨(zs.take len).map fun z => UInt8.ofNat z.toNat, by simp; omega, ?_⟩
    refine Rep.sl (some x) len cap false _ 1 (fun j _ => .int .u8 (zs.getD j 0)) (by simp [cellsOfBytes]; omega) h1 (fun h => by cases h) (by decide) (fun y hy => ?_) (fun hn => ?_) (fun j c y z hy hz => ?_)
    · simp only [cellsOfBytes, List.mem_map] at hy
      obtain ⟨b, _, rfl⟩ := hy
      rfl
    · obtain ⟨g, o, sp⟩ := x
      have h0 := h4 0 (by omega)
      have hsp : sp = none := by
        simp only [Addr.add, if_true] at h0
        unfold World.cell? at h0
        cases sp with
        | none => rfl
        | some s => simp at h0; split at h0 <;> cases h0
      subst hsp
      refine ⟨g, o, rfl, ?_, fun j c y z hy hz => ?_⟩
      · simp only [Addr.add, if_true] at h0
        unfold World.cell? at h0
        rcases Nat.lt_or_ge g w.heap.size with hg | hg
        · exact hg
        · rw [Array.getElem?_eq_none hg] at h0; cases h0
      · have hj : j < ((zs.take len).map fun z => UInt8.ofNat z.toNat).length := by
          have := (List.getElem?_eq_some_iff.1 hy).1
          simpa [cellsOfBytes] using this
        simp only [List.length_map, List.length_take] at hj
        simp only [cellsOfBytes, List.getElem?_map] at hy
        obtain ⟨b, _, rfl⟩ := Option.map_eq_some_iff.1 hy
        have hc : c = 0 := by
          have := (List.getElem?_eq_some_iff.1 hz).1
          simp at this
          omega
        subst hc
        have := h4 j (by omega)
        rw [add0] at this
        simpa using this
    · have hj : j < zs.length := by
        have := (List.getElem?_eq_some_iff.1 hy).1
        simp [cellsOfBytes] at this
        omega
      have hjl : j < len := by
        have := (List.getElem?_eq_some_iff.1 hy).1
        simp [cellsOfBytes] at this
        omega
      have hbj := hb j hj
      have hc : c = 0 := by
        simp only [cellsOfBytes, List.getElem?_map] at hy
        obtain ⟨b, _, rfl⟩ := Option.map_eq_some_iff.1 hy
        have := (List.getElem?_eq_some_iff.1 hz).1
        simp at this
        omega
      subst hc
      rw [List.getD_eq_getElem?_getD, List.getElem?_eq_getElem hj] at hbj
      simp [cellsOfBytes, List.getElem?_take_of_lt hjl, List.getElem?_eq_getElem hj] at hy
      subst hy
      simp at hz
      subst hz
      simp only [Option.getD_some] at hbj
      have e : ((UInt8.ofNat (zs[j]).toNat).toNat : Int) = zs[j] := by
        simp
        omega
      simp only [List.getD_eq_getElem?_getD, List.getElem?_eq_getElem hj, Option.getD_some]
      rw [show max zs[j] 0 % 256 = zs[j] by omega]
      exact .int _ _
end Go.Proofs.Ytfbjbkkcilhgjaa.PE
