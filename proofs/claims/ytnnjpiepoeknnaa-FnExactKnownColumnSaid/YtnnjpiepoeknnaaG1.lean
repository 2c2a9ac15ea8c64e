/- Texts of this claim, one behind the other: Pvc, Pvf, Pv7, Pv8, Pv9, Pva, Pvb, Pr1, Pvh, Pk1, Pk2, Pr5. -/
import Derived.Test.YtnnjpiepoeknnaaG0
import Derived.Deep.Slices
import Derived.ChangeArms
/- What may hold and what must, by what is known: the program and the reference, and that they agree. -/
set_option linter.unusedSimpArgs false
set_option linter.unusedVariables false
set_option maxHeartbeats 4000000
namespace Go.Proofs.Ytnnjpiepoeknnaa.PE
open Go.RowKit

def asks (k : Kn) (kd : Int) (v : Val) : Bool := if k.ok then (if 0 < k.many then (if 1 ≤ kd ∧ kd ≤ 4 then (if v.ok then decide (v.kind = k.least.kind) else false) else false) else false) else false
def mayI (k : Kn) (kd : Int) (v : Val) : Bool := if asks k kd v then (
  if kd = 1 then (if k.least.cmp v ≤ 0 then decide (0 ≤ k.most.cmp v) else false)
  else if kd = 2 then (if k.least.cmp v = 0 then !decide (k.most.cmp v = 0) else true)
  else if kd = 3 then decide (k.least.cmp v < 0) else decide (k.least.cmp v ≤ 0)) else false
def mustI (k : Kn) (kd : Int) (v : Val) : Bool := if asks k kd v then (
  if kd = 1 then (if k.least.cmp v = 0 then decide (k.most.cmp v = 0) else false)
  else if kd = 2 then (if 0 < k.least.cmp v then true else decide (k.most.cmp v < 0))
  else if kd = 3 then decide (k.most.cmp v < 0) else decide (k.most.cmp v ≤ 0)) else false
def asksR (k : Kn) (v : Val) : Bool := if k.ok then (if k.many = 0 then false else if v.ok then decide (v.kind = k.least.kind) else false) else false
def mayR (k : Kn) (kd : Int) (v : Val) : Bool := if asksR k v then (
  if kd = 1 then (if k.least.ord v ≤ 0 then decide (v.ord k.most ≤ 0) else false)
  else if kd = 2 then (if k.least = v then !decide (k.most = v) else true)
  else if kd = 3 then decide (k.least.ord v < 0) else if kd = 4 then decide (k.least.ord v ≤ 0) else false) else false
def mustR (k : Kn) (kd : Int) (v : Val) : Bool := if asksR k v then (
  if kd = 1 then (if k.least = v then decide (k.most = v) else false)
  else if kd = 2 then (if v.ord k.least < 0 then true else decide (k.most.ord v < 0))
  else if kd = 3 then decide (k.most.ord v < 0) else if kd = 4 then decide (k.most.ord v ≤ 0) else false) else false

theorem run_asks (d : Nat) (am au : Int) (alk aln : Int) (alq : ByteArray) (agk agn : Int) (agq : ByteArray) (kd : Int) (bk bn : Int) (bq : ByteArray) : retP (runD tab noExt (d + 5)) 77 [.agg [.int .i64 am, .int .i64 au, .int .i64 alk, .int .i64 aln, .str alq, .int .i64 agk, .int .i64 agn, .str agq], .int .i64 kd, .agg [.int .i64 bk, .int .i64 bn, .str bq]] = some [.bool (asks (⟨am, au, (⟨alk, aln, alq⟩ : Val), (⟨agk, agn, agq⟩ : Val)⟩ : Kn) kd (⟨bk, bn, bq⟩ : Val))] := by
  rw [retP, runD_eq find77 _ _ _ (by simp)]
  simp -implicitDefEqProofs (disch := omega) only [go_sem, Nat.reduceBEq, Nat.reduceAdd, Nat.reduceSub, Nat.reduceMul, Nat.reduceLeDiff, Nat.reduceEqDiff, Nat.reduceLT, Int.reduceNeg, Int.reduceAdd, Int.reduceSub, Int.reduceMul, Int.reduceLE, Int.reduceLT, Int.reduceEq, Int.reduceToNat, reduceCtorEq, run_KnownOk, run_between, run_ok]
  repeat' ((first | rw [GuardI_ndec] | rw [CondC_ndec] | rw [GuardQ_ndec] | rw [GuardI_dec] | rw [CondC_dec] | rw [GuardQ_dec] | rw [GuardI_nby] | rw [CondC_nby] | rw [GuardQ_nby] | rw [GuardQ_by] | rw [GuardI_by] | rw [CondC_by]) <;> split <;> simp -implicitDefEqProofs (disch := omega) only [go_sem, Nat.reduceBEq, Nat.reduceAdd, Nat.reduceSub, Nat.reduceMul, Nat.reduceLeDiff, Nat.reduceEqDiff, Nat.reduceLT, Int.reduceNeg, Int.reduceAdd, Int.reduceSub, Int.reduceMul, Int.reduceLE, Int.reduceLT, Int.reduceEq, Int.reduceToNat, reduceCtorEq, run_KnownOk, run_between, run_ok, *])
  all_goals (first | (simp only [asks, reduceIte, if_true, if_false, Bool.false_eq_true, *]; done) | (simp_all [asks]; done) | (simp_all [asks]; omega) | (simp_all [asks]; grind))
theorem run_mayI (d : Nat) (am au : Int) (alk aln : Int) (alq : ByteArray) (agk agn : Int) (agq : ByteArray) (kd : Int) (bk bn : Int) (bq : ByteArray) : retP (runD tab noExt (d + 6)) 16 [.agg [.int .i64 am, .int .i64 au, .int .i64 alk, .int .i64 aln, .str alq, .int .i64 agk, .int .i64 agn, .str agq], .int .i64 kd, .agg [.int .i64 bk, .int .i64 bn, .str bq]] = some [.bool (mayI (⟨am, au, (⟨alk, aln, alq⟩ : Val), (⟨agk, agn, agq⟩ : Val)⟩ : Kn) kd (⟨bk, bn, bq⟩ : Val))] := by
  rw [retP, runD_eq find16 _ _ _ (by simp)]
  simp -implicitDefEqProofs (disch := omega) only [go_sem, Nat.reduceBEq, Nat.reduceAdd, Nat.reduceSub, Nat.reduceMul, Nat.reduceLeDiff, Nat.reduceEqDiff, Nat.reduceLT, Int.reduceNeg, Int.reduceAdd, Int.reduceSub, Int.reduceMul, Int.reduceLE, Int.reduceLT, Int.reduceEq, Int.reduceToNat, reduceCtorEq, run_asks, run_order, evC_draw, evD16x0, E16x0]
  repeat' ((first | rw [GuardI_ndec] | rw [CondC_ndec] | rw [GuardQ_ndec] | rw [GuardI_dec] | rw [CondC_dec] | rw [GuardQ_dec] | rw [GuardI_nby] | rw [CondC_nby] | rw [GuardQ_nby] | rw [GuardQ_by] | rw [GuardI_by] | rw [CondC_by]) <;> split <;> simp -implicitDefEqProofs (disch := omega) only [go_sem, Nat.reduceBEq, Nat.reduceAdd, Nat.reduceSub, Nat.reduceMul, Nat.reduceLeDiff, Nat.reduceEqDiff, Nat.reduceLT, Int.reduceNeg, Int.reduceAdd, Int.reduceSub, Int.reduceMul, Int.reduceLE, Int.reduceLT, Int.reduceEq, Int.reduceToNat, reduceCtorEq, run_asks, run_order, evC_draw, evD16x0, E16x0, *])
  all_goals (first | (simp only [mayI, reduceIte, if_true, if_false, Bool.false_eq_true, *]; done) | (simp_all [mayI]; done) | (simp_all [mayI]; omega) | (simp_all [mayI]; grind))
theorem run_mustI (d : Nat) (am au : Int) (alk aln : Int) (alq : ByteArray) (agk agn : Int) (agq : ByteArray) (kd : Int) (bk bn : Int) (bq : ByteArray) : retP (runD tab noExt (d + 6)) 20 [.agg [.int .i64 am, .int .i64 au, .int .i64 alk, .int .i64 aln, .str alq, .int .i64 agk, .int .i64 agn, .str agq], .int .i64 kd, .agg [.int .i64 bk, .int .i64 bn, .str bq]] = some [.bool (mustI (⟨am, au, (⟨alk, aln, alq⟩ : Val), (⟨agk, agn, agq⟩ : Val)⟩ : Kn) kd (⟨bk, bn, bq⟩ : Val))] := by
  rw [retP, runD_eq find20 _ _ _ (by simp)]
  simp -implicitDefEqProofs (disch := omega) only [go_sem, Nat.reduceBEq, Nat.reduceAdd, Nat.reduceSub, Nat.reduceMul, Nat.reduceLeDiff, Nat.reduceEqDiff, Nat.reduceLT, Int.reduceNeg, Int.reduceAdd, Int.reduceSub, Int.reduceMul, Int.reduceLE, Int.reduceLT, Int.reduceEq, Int.reduceToNat, reduceCtorEq, run_asks, run_order, evC_draw, evD20x0, E20x0]
  repeat' ((first | rw [GuardI_ndec] | rw [CondC_ndec] | rw [GuardQ_ndec] | rw [GuardI_dec] | rw [CondC_dec] | rw [GuardQ_dec] | rw [GuardI_nby] | rw [CondC_nby] | rw [GuardQ_nby] | rw [GuardQ_by] | rw [GuardI_by] | rw [CondC_by]) <;> split <;> simp -implicitDefEqProofs (disch := omega) only [go_sem, Nat.reduceBEq, Nat.reduceAdd, Nat.reduceSub, Nat.reduceMul, Nat.reduceLeDiff, Nat.reduceEqDiff, Nat.reduceLT, Int.reduceNeg, Int.reduceAdd, Int.reduceSub, Int.reduceMul, Int.reduceLE, Int.reduceLT, Int.reduceEq, Int.reduceToNat, reduceCtorEq, run_asks, run_order, evC_draw, evD20x0, E20x0, *])
  all_goals (first | (simp only [mustI, reduceIte, if_true, if_false, Bool.false_eq_true, *]; done) | (simp_all [mustI]; done) | (simp_all [mustI]; omega) | (simp_all [mustI]; grind))
theorem run_mayR (d : Nat) (am au : Int) (alk aln : Int) (alq : ByteArray) (agk agn : Int) (agq : ByteArray) (kd : Int) (bk bn : Int) (bq : ByteArray) (h1 : alq.size < 1099511627776) (h2 : agq.size < 1099511627776) (h3 : bq.size < 1099511627776) : retP (runD tab noExt (d + 5)) 17 [.agg [.int .i64 am, .int .i64 au, .int .i64 alk, .int .i64 aln, .str alq, .int .i64 agk, .int .i64 agn, .str agq], .int .i64 kd, .agg [.int .i64 bk, .int .i64 bn, .str bq]] = some [.bool (mayR (⟨am, au, (⟨alk, aln, alq⟩ : Val), (⟨agk, agn, agq⟩ : Val)⟩ : Kn) kd (⟨bk, bn, bq⟩ : Val))] := by
  rw [retP, runD_eq find17 _ _ _ (by simp)]
  simp -implicitDefEqProofs (disch := omega) only [go_sem, Nat.reduceBEq, Nat.reduceAdd, Nat.reduceSub, Nat.reduceMul, Nat.reduceLeDiff, Nat.reduceEqDiff, Nat.reduceLT, Int.reduceNeg, Int.reduceAdd, Int.reduceSub, Int.reduceMul, Int.reduceLE, Int.reduceLT, Int.reduceEq, Int.reduceToNat, reduceCtorEq, run_specKnownOk, run_specValueOk, run_ValueOrder]
  repeat' ((first | rw [GuardI_ndec] | rw [CondC_ndec] | rw [GuardQ_ndec] | rw [GuardI_dec] | rw [CondC_dec] | rw [GuardQ_dec] | rw [GuardI_nby] | rw [CondC_nby] | rw [GuardQ_nby] | rw [GuardQ_by] | rw [GuardI_by] | rw [CondC_by]) <;> split <;> simp -implicitDefEqProofs (disch := omega) only [go_sem, Nat.reduceBEq, Nat.reduceAdd, Nat.reduceSub, Nat.reduceMul, Nat.reduceLeDiff, Nat.reduceEqDiff, Nat.reduceLT, Int.reduceNeg, Int.reduceAdd, Int.reduceSub, Int.reduceMul, Int.reduceLE, Int.reduceLT, Int.reduceEq, Int.reduceToNat, reduceCtorEq, run_specKnownOk, run_specValueOk, run_ValueOrder, *])
  all_goals (first | (simp only [mayR, asksR, Val.mk.injEq, reduceIte, if_true, if_false, Bool.false_eq_true, *]; done) | (simp_all [mayR, asksR, Val.mk.injEq]; done) | (simp_all [mayR, asksR, Val.mk.injEq]; omega) | (simp_all [mayR, asksR, Val.mk.injEq]; grind))
theorem run_mustR (d : Nat) (am au : Int) (alk aln : Int) (alq : ByteArray) (agk agn : Int) (agq : ByteArray) (kd : Int) (bk bn : Int) (bq : ByteArray) (h1 : alq.size < 1099511627776) (h2 : agq.size < 1099511627776) (h3 : bq.size < 1099511627776) : retP (runD tab noExt (d + 5)) 23 [.agg [.int .i64 am, .int .i64 au, .int .i64 alk, .int .i64 aln, .str alq, .int .i64 agk, .int .i64 agn, .str agq], .int .i64 kd, .agg [.int .i64 bk, .int .i64 bn, .str bq]] = some [.bool (mustR (⟨am, au, (⟨alk, aln, alq⟩ : Val), (⟨agk, agn, agq⟩ : Val)⟩ : Kn) kd (⟨bk, bn, bq⟩ : Val))] := by
  rw [retP, runD_eq find23 _ _ _ (by simp)]
  simp -implicitDefEqProofs (disch := omega) only [go_sem, Nat.reduceBEq, Nat.reduceAdd, Nat.reduceSub, Nat.reduceMul, Nat.reduceLeDiff, Nat.reduceEqDiff, Nat.reduceLT, Int.reduceNeg, Int.reduceAdd, Int.reduceSub, Int.reduceMul, Int.reduceLE, Int.reduceLT, Int.reduceEq, Int.reduceToNat, reduceCtorEq, run_specKnownOk, run_specValueOk, run_ValueOrder]
  repeat' ((first | rw [GuardI_ndec] | rw [CondC_ndec] | rw [GuardQ_ndec] | rw [GuardI_dec] | rw [CondC_dec] | rw [GuardQ_dec] | rw [GuardI_nby] | rw [CondC_nby] | rw [GuardQ_nby] | rw [GuardQ_by] | rw [GuardI_by] | rw [CondC_by]) <;> split <;> simp -implicitDefEqProofs (disch := omega) only [go_sem, Nat.reduceBEq, Nat.reduceAdd, Nat.reduceSub, Nat.reduceMul, Nat.reduceLeDiff, Nat.reduceEqDiff, Nat.reduceLT, Int.reduceNeg, Int.reduceAdd, Int.reduceSub, Int.reduceMul, Int.reduceLE, Int.reduceLT, Int.reduceEq, Int.reduceToNat, reduceCtorEq, run_specKnownOk, run_specValueOk, run_ValueOrder, *])
  all_goals (first | (simp only [mustR, asksR, Val.mk.injEq, reduceIte, if_true, if_false, Bool.false_eq_true, *]; done) | (simp_all [mustR, asksR, Val.mk.injEq]; done) | (simp_all [mustR, asksR, Val.mk.injEq]; omega) | (simp_all [mustR, asksR, Val.mk.injEq]; grind))

theorem Kn.ok_spec {k : Kn} (h : k.ok = true) (hm : k.many ≠ 0) : 1 ≤ k.many ∧ k.least.ok = true ∧ k.most.ok = true ∧ k.least.cmp k.most ≤ 0 := by
  unfold Kn.ok at h
  rw [if_neg hm] at h
  simp at h
  exact ⟨by omega, h.1.1.1.1.1.2, h.1.1.1.1.2, h.1.2⟩
theorem asks_R (k : Kn) (kd : Int) (v : Val) : asks k kd v = (asksR k v && decide (1 ≤ kd ∧ kd ≤ 4)) := by
  unfold asks asksR
  by_cases h : k.ok = true
  · by_cases hm : k.many = 0
    · simp [h, hm]
    · have := (Kn.ok_spec h hm).1
      have h0 : 0 < k.many := by omega
      simp [h, hm, h0]
      by_cases h1 : 1 ≤ kd <;> by_cases h2 : kd ≤ 4 <;> simp [h1, h2]
  · simp [h]
theorem asksR_spec {k : Kn} {v : Val} (h : asksR k v = true) : v.ok = true ∧ k.least.ok = true ∧ k.most.ok = true ∧ k.least.cmp k.most ≤ 0 ∧ k.ok = true ∧ 0 < k.many ∧ v.kind = k.least.kind := by
  unfold asksR at h
  split at h
  · split at h
    · cases h
    · split at h
      · rename_i h1 h2 h3
        obtain ⟨g1, g2, g3, g4⟩ := Kn.ok_spec h1 h2
        exact ⟨h3, g2, g3, g4, h1, by omega, by simpa using h⟩
      · cases h
  · cases h
theorem ord_ok {v w : Val} (h : v.ok = true) (h' : w.ok = true) : v.ord w = v.cmp w := by simp [Val.ord, h, h']
theorem may_same (k : Kn) (kd : Int) (v : Val) : mayI k kd v = mayR k kd v := by
  unfold mayI mayR
  rw [asks_R]
  by_cases h : asksR k v = true
  · obtain ⟨g1, g2, g3, g4, _⟩ := asksR_spec h
    rw [ord_ok g2 g1, ord_ok g1 g3]
    have e1 := Val.cmp_eq k.least v
    have e2 := Val.cmp_eq k.most v
    have e3 := Val.cmp_swap_lt k.most v
    have e4 := Val.cmp_swap_lt v k.most
    have e5 := Val.cmp_swap_eq k.most v
    simp only [h, Bool.true_and, decide_eq_true_eq, if_true]
    simp only [← e1, ← e2]
    by_cases k1 : kd = 1
    · subst k1
      simp
      by_cases c1 : k.least.cmp v ≤ 0
      · simp [c1]; omega
      · simp [c1]
    · by_cases k2 : kd = 2
      · subst k2; simp
      · by_cases k3 : kd = 3
        · subst k3; simp
        · by_cases k4 : kd = 4
          · subst k4; simp
          · have : ¬ (1 ≤ kd ∧ kd ≤ 4) := by omega
            simp [k1, k2, k3, k4, this]
  · simp [h]
theorem must_same (k : Kn) (kd : Int) (v : Val) : mustI k kd v = mustR k kd v := by
  unfold mustI mustR
  rw [asks_R]
  by_cases h : asksR k v = true
  · obtain ⟨g1, g2, g3, g4, _⟩ := asksR_spec h
    rw [ord_ok g1 g2, ord_ok g3 g1]
    have e1 := Val.cmp_eq k.least v
    have e2 := Val.cmp_eq k.most v
    have e3 := Val.cmp_swap_lt v k.least
    simp only [h, Bool.true_and, decide_eq_true_eq, if_true]
    simp only [← e1, ← e2]
    by_cases k1 : kd = 1
    · subst k1; simp
    · by_cases k2 : kd = 2
      · subst k2; simp [e3]
      · by_cases k3 : kd = 3
        · subst k3; simp
        · by_cases k4 : kd = 4
          · subst k4; simp
          · have : ¬ (1 ≤ kd ∧ kd ≤ 4) := by omega
            simp [k1, k2, k3, k4, this]
  · simp [h]
/-- What must hold may hold. -/
theorem must_may {k : Kn} {kd : Int} {v : Val} (h : mustI k kd v = true) : mayI k kd v = true := by
  unfold mustI at h
  split at h
  · rename_i ha
    have ha' := ha
    rw [asks_R, Bool.and_eq_true] at ha'
    obtain ⟨g1, g2, g3, g4, _⟩ := asksR_spec ha'.1
    unfold mayI
    rw [if_pos ha]
    by_cases k1 : kd = 1
    · subst k1
      simp at h ⊢
      omega
    · by_cases k2 : kd = 2
      · subst k2
        simp at h ⊢
        omega
      · by_cases k3 : kd = 3
        · subst k3
          simp at h ⊢
          exact Val.le_lt g4 h
        · simp [k1, k2, k3] at h ⊢
          exact Val.le_le g4 h
  · cases h
theorem either (k : Kn) (v : Val) : (mayI k 1 v || mayI k 2 v) = asksR k v := by
  unfold mayI
  rw [asks_R, asks_R]
  by_cases h : asksR k v = true
  · simp [h]
    by_cases c1 : k.least.cmp v = 0
    · simp [c1]
      by_cases c2 : k.most.cmp v = 0 <;> simp [c2]
    · simp [c1]
  · simp [h]
end Go.Proofs.Ytnnjpiepoeknnaa.PE
/- What is known of parts and of all: the plain law. -/
set_option linter.unusedSimpArgs false
set_option linter.unusedVariables false
set_option maxHeartbeats 4000000
namespace Go.Proofs.Ytnnjpiepoeknnaa.PE
open Go.RowKit

def minV (a b : Val) : Val := if b.cmp a < 0 then b else a
def maxV (a b : Val) : Val := if 0 < b.cmp a then b else a
theorem Val.cmp_self (a : Val) : a.cmp a = 0 := (Val.cmp_eq a a).2 rfl
theorem not_lt_le {v w : Val} (h : ¬ v.cmp w < 0) : w.cmp v ≤ 0 := by
  have := Val.cmp_swap_lt v w
  omega
theorem not_gt_le {v w : Val} (h : ¬ 0 < v.cmp w) : v.cmp w ≤ 0 := by omega
theorem gt_lt {v w : Val} (h : 0 < v.cmp w) : w.cmp v < 0 := (Val.cmp_swap_lt w v).2 h
theorem lt_gt {v w : Val} (h : v.cmp w < 0) : 0 < w.cmp v := (Val.cmp_swap_lt v w).1 h
theorem Val.lt_trans' {a b c : Val} (h : a.cmp b < 0) (h' : b.cmp c < 0) : a.cmp c < 0 := Val.le_lt (by omega) h'
theorem minV_or (a b : Val) : minV a b = a ∨ minV a b = b := by
  unfold minV
  split
  · exact .inr rfl
  · exact .inl rfl
theorem maxV_or (a b : Val) : maxV a b = a ∨ maxV a b = b := by
  unfold maxV
  split
  · exact .inr rfl
  · exact .inl rfl
theorem minV_l (a b : Val) : (minV a b).cmp a ≤ 0 := by
  unfold minV
  split
  · omega
  · rw [Val.cmp_self]; omega
theorem minV_r (a b : Val) : (minV a b).cmp b ≤ 0 := by
  unfold minV
  split
  · rw [Val.cmp_self]; omega
  · rename_i h
    exact not_lt_le h
theorem maxV_l (a b : Val) : a.cmp (maxV a b) ≤ 0 := by
  unfold maxV
  split
  · rename_i h
    have := gt_lt h
    omega
  · rw [Val.cmp_self]; omega
theorem maxV_r (a b : Val) : b.cmp (maxV a b) ≤ 0 := by
  unfold maxV
  split
  · rw [Val.cmp_self]; omega
  · omega
theorem minV_assoc (a b c : Val) : minV (minV a b) c = minV a (minV b c) := by
  unfold minV
  by_cases h1 : b.cmp a < 0 <;> by_cases h2 : c.cmp b < 0 <;> by_cases h3 : c.cmp a < 0 <;> simp only [h1, h2, h3, if_true, if_false]
  · exact absurd (Val.lt_trans' h2 h1) h3
  · exact absurd (Val.le_lt (not_lt_le h2) h3) h1
theorem maxV_assoc (a b c : Val) : maxV (maxV a b) c = maxV a (maxV b c) := by
  unfold maxV
  by_cases h1 : 0 < b.cmp a <;> by_cases h2 : 0 < c.cmp b <;> by_cases h3 : 0 < c.cmp a <;> simp only [h1, h2, h3, if_true, if_false]
  · exact absurd (lt_gt (Val.lt_trans' (gt_lt h1) (gt_lt h2))) h3
  · have := Val.le_le (not_gt_le h2) (not_gt_le h1)
    omega

/-- What is known of some values, at most so many, of a kind. -/
def Good (kd n : Int) (k : Kn) : Prop := k.ok = true ∧ k.many ≤ n ∧ (k.many = 0 ∨ k.least.kind = kd)
theorem Kn.zero_of {k : Kn} (h : k.ok = true) (hm : k.many = 0) : k = Kn.zero := by
  unfold Kn.ok at h
  rw [if_pos hm] at h
  simpa using h
structure Kn.Full (k : Kn) : Prop where
  many : 1 ≤ k.many ∧ k.many ≤ 100
  sum : -9999 * k.many ≤ k.sum ∧ k.sum ≤ 9999 * k.many
  least : k.least.ok = true
  most : k.most.ok = true
  kind : k.least.kind = k.most.kind
  some : k.least.kind ≠ 0
  ord : k.least.cmp k.most ≤ 0
  num : k.least.kind = 1 ∨ k.sum = 0
theorem Kn.full_of {k : Kn} (h : k.ok = true) (hm : k.many ≠ 0) : k.Full := by
  unfold Kn.ok at h
  rw [if_neg hm] at h
  simp only [Bool.and_eq_true, Bool.or_eq_true, decide_eq_true_eq, Bool.not_eq_true', decide_eq_false_iff_not] at h
  exact ⟨⟨h.1.1.1.1.1.1.1.1, h.1.1.1.1.1.1.1.2⟩, h.1.1.1.1.1.1.2, h.1.1.1.1.1.2, h.1.1.1.1.2, h.1.1.1.2, h.1.1.2, h.1.2, h.2⟩
theorem Kn.Full.ok {k : Kn} (h : k.Full) : k.ok = true := by
  have hm : k.many ≠ 0 := by have := h.many; omega
  unfold Kn.ok
  rw [if_neg hm]
  simp only [Bool.and_eq_true, Bool.or_eq_true, decide_eq_true_eq, Bool.not_eq_true', decide_eq_false_iff_not]
  exact ⟨⟨⟨⟨⟨⟨⟨h.many, h.sum⟩, h.least⟩, h.most⟩, h.kind⟩, h.some⟩, h.ord⟩, h.num⟩
theorem Kn.zero_ok : Kn.zero.ok = true := rfl
theorem Good.zero (kd : Int) : Good kd 0 Kn.zero := ⟨rfl, by decide, .inl rfl⟩
theorem knBoth_zero {a : Kn} (h : a.ok = true) : knBoth a Kn.zero = a := by
  unfold knBoth
  rw [if_pos h, if_pos Kn.zero_ok]
  split
  · rename_i hm
    rw [Kn.zero_of h hm]
  · rfl
theorem zero_knBoth {a : Kn} (h : a.ok = true) : knBoth Kn.zero a = a := by
  unfold knBoth
  rw [if_pos Kn.zero_ok, if_pos h, if_pos (show Kn.zero.many = 0 from rfl)]
theorem knBoth_form {a b : Kn} (ha : a.Full) (hb : b.Full) (hk : a.least.kind = b.least.kind) (hn : a.many + b.many ≤ 100) : knBoth a b = ⟨a.many + b.many, a.sum + b.sum, minV a.least b.least, maxV a.most b.most⟩ := by
  have h1 := ha.many
  have h2 := hb.many
  unfold knBoth
  rw [if_pos ha.ok, if_pos hb.ok, if_neg (by omega), if_neg (by omega), if_pos hk, if_neg (by omega), ord_ok hb.least ha.least, ord_ok hb.most ha.most]
  rfl
theorem full_both {a b : Kn} (ha : a.Full) (hb : b.Full) (hk : a.least.kind = b.least.kind) (hn : a.many + b.many ≤ 100) : Kn.Full ⟨a.many + b.many, a.sum + b.sum, minV a.least b.least, maxV a.most b.most⟩ := by
  have h1 := ha.many
  have h2 := hb.many
  have h3 := ha.sum
  have h4 := hb.sum
  have k1 := ha.kind
  have k2 := hb.kind
  have kl : (minV a.least b.least).kind = a.least.kind := by rcases minV_or a.least b.least with e | e <;> rw [e]; exact hk.symm
  have km : (maxV a.most b.most).kind = a.least.kind := by rcases maxV_or a.most b.most with e | e <;> rw [e] <;> omega
  refine ⟨⟨?_, hn⟩, ⟨?_, ?_⟩, ?_, ?_, ?_, ?_, ?_, ?_⟩ <;> dsimp only
  · omega
  · omega
  · omega
  · rcases minV_or a.least b.least with e | e <;> rw [e]
    · exact ha.least
    · exact hb.least
  · rcases maxV_or a.most b.most with e | e <;> rw [e]
    · exact ha.most
    · exact hb.most
  · rw [kl, km]
  · rw [kl]; exact ha.some
  · exact Val.le_le (minV_l _ _) (Val.le_le ha.ord (maxV_l _ _))
  · rw [kl]
    rcases ha.num with e | e
    · exact .inl e
    · rcases hb.num with e' | e'
      · exact .inl (by omega)
      · exact .inr (by omega)
theorem Good.full {kd n : Int} {k : Kn} (h : Good kd n k) (hm : k.many ≠ 0) : k.Full ∧ k.least.kind = kd := ⟨Kn.full_of h.1 hm, h.2.2.resolve_left hm⟩
theorem Good.both {kd n m : Int} {a b : Kn} (ha : Good kd n a) (hb : Good kd m b) (hn : 0 ≤ n) (hm : 0 ≤ m) (hs : n + m ≤ 100) : Good kd (n + m) (knBoth a b) := by
  by_cases h1 : a.many = 0
  · rw [Kn.zero_of ha.1 h1, zero_knBoth hb.1]
    exact ⟨hb.1, by have := hb.2.1; omega, hb.2.2⟩
  · by_cases h2 : b.many = 0
    · rw [Kn.zero_of hb.1 h2, knBoth_zero ha.1]
      exact ⟨ha.1, by have := ha.2.1; omega, ha.2.2⟩
    · obtain ⟨fa, ka⟩ := ha.full h1
      obtain ⟨fb, kb⟩ := hb.full h2
      have i1 := ha.2.1
      have i2 := hb.2.1
      rw [knBoth_form fa fb (by omega) (by omega)]
      refine ⟨(full_both fa fb (by omega) (by omega)).ok, by dsimp only; omega, .inr ?_⟩
      dsimp only
      rcases minV_or a.least b.least with e | e <;> rw [e] <;> assumption
theorem both_assoc {kd n m q : Int} {a b c : Kn} (ha : Good kd n a) (hb : Good kd m b) (hc : Good kd q c) (hn : 0 ≤ n) (hm : 0 ≤ m) (hq : 0 ≤ q) (hs : n + m + q ≤ 100) : knBoth (knBoth a b) c = knBoth a (knBoth b c) := by
  by_cases h1 : a.many = 0
  · rw [Kn.zero_of ha.1 h1, zero_knBoth hb.1, zero_knBoth (hb.both hc hm hq (by omega)).1]
  · by_cases h2 : b.many = 0
    · rw [Kn.zero_of hb.1 h2, knBoth_zero ha.1, zero_knBoth hc.1]
    · by_cases h3 : c.many = 0
      · rw [Kn.zero_of hc.1 h3, knBoth_zero hb.1, knBoth_zero (ha.both hb hn hm (by omega)).1]
      · obtain ⟨fa, ka⟩ := ha.full h1
        obtain ⟨fb, kb⟩ := hb.full h2
        obtain ⟨fc, kc⟩ := hc.full h3
        have i1 := ha.2.1
        have i2 := hb.2.1
        have i3 := hc.2.1
        have m1 : (minV a.least b.least).kind = kd := by rcases minV_or a.least b.least with e | e <;> rw [e] <;> assumption
        have m2 : (minV b.least c.least).kind = kd := by rcases minV_or b.least c.least with e | e <;> rw [e] <;> assumption
        rw [knBoth_form fa fb (by omega) (by omega), knBoth_form fb fc (by omega) (by omega), knBoth_form (full_both fa fb (by omega) (by omega)) fc (by dsimp only; omega) (by dsimp only; omega),
          knBoth_form fa (full_both fb fc (by omega) (by omega)) (by dsimp only; omega) (by dsimp only; omega)]
        dsimp only
        rw [minV_assoc, maxV_assoc, Int.add_assoc, Int.add_assoc]
def KdOk (kd : Int) (v : Val) : Prop := v.ok = true ∧ (v.kind = kd ∨ v.kind = 0)
theorem Good.of {kd : Int} {v : Val} (h : KdOk kd v) : Good kd 1 (knOf v) := by
  obtain ⟨h1, h2⟩ := h
  unfold knOf
  rw [if_pos h1]
  split
  · exact ⟨rfl, by decide, .inl rfl⟩
  · rename_i h3
    have hk : v.kind = kd := h2.resolve_right h3
    refine ⟨Kn.Full.ok ⟨⟨show (1 : Int) ≤ 1 by omega, show (1 : Int) ≤ 100 by omega⟩, ?_, h1, h1, rfl, h3, by dsimp only; rw [Val.cmp_self]; omega, ?_⟩, show (1 : Int) ≤ 1 by omega, .inr hk⟩ <;> dsimp only
    · split
      · rename_i h4
        have h5 := h1
        unfold Val.ok at h5
        rw [if_neg h3, if_pos h4] at h5
        simp only [Bool.and_eq_true, decide_eq_true_eq] at h5
        omega
      · omega
    · by_cases h4 : v.kind = 1
      · exact .inl h4
      · rw [if_neg h4]; exact .inr rfl
def kstep (k : Kn) (v : Val) : Kn := knBoth k (knOf v)
def kfold (vs : List Val) : Kn := vs.foldl kstep Kn.zero
theorem fold_good {kd : Int} : ∀ {vs : List Val} {k : Kn} {n : Int}, (∀ v ∈ vs, KdOk kd v) → Good kd n k → 0 ≤ n → n + vs.length ≤ 100 → Good kd (n + vs.length) (vs.foldl kstep k)
  | [], k, n, _, hk, _, _ => by simpa using hk
  | v :: r, k, n, hv, hk, hn, hs => by
    simp only [List.length_cons, Int.natCast_add, Int.natCast_one] at hs ⊢
    have := fold_good (vs := r) (fun x hx => hv x (List.mem_cons_of_mem _ hx)) (hk.both (Good.of (hv v List.mem_cons_self)) hn (by decide) (by omega)) (by omega) (by omega)
    rw [show n + (r.length + 1 : Int) = n + 1 + r.length by omega]
    exact this
theorem fold_both {kd : Int} : ∀ {vs : List Val} {a b : Kn} {n m : Int}, (∀ v ∈ vs, KdOk kd v) → Good kd n a → Good kd m b → 0 ≤ n → 0 ≤ m → n + m + vs.length ≤ 100 → vs.foldl kstep (knBoth a b) = knBoth a (vs.foldl kstep b)
  | [], a, b, n, m, _, _, _, _, _, _ => rfl
  | v :: r, a, b, n, m, hv, ha, hb, hn, hm, hs => by
    simp only [List.length_cons, Int.natCast_add, Int.natCast_one] at hs
    have hg := Good.of (hv v List.mem_cons_self)
    simp only [List.foldl_cons]
    rw [show kstep (knBoth a b) v = knBoth a (kstep b v) from both_assoc ha hb hg hn hm (by decide) (by omega)]
    exact fold_both (fun x hx => hv x (List.mem_cons_of_mem _ hx)) ha (hb.both hg hm (by decide) (by omega)) hn (by omega) (by omega)
theorem kfold_good {kd : Int} {vs : List Val} (h : ∀ v ∈ vs, KdOk kd v) (hs : vs.length ≤ 100) : Good kd vs.length (kfold vs) := by
  have := fold_good h (Good.zero kd) (by decide) (by omega)
  simpa [kfold] using this
theorem kfold_append {kd : Int} {xs ys : List Val} (hx : ∀ v ∈ xs, KdOk kd v) (hy : ∀ v ∈ ys, KdOk kd v) (hs : xs.length + ys.length ≤ 100) : kfold (xs ++ ys) = knBoth (kfold xs) (kfold ys) := by
  have hg := kfold_good hx (by omega)
  unfold kfold
  rw [List.foldl_append]
  have := fold_both hy hg (Good.zero kd) (by omega) (by decide) (by omega)
  rw [knBoth_zero hg.1] at this
  exact this

/-- The values of a column. -/
def colVs (i : Int) (rs : List Row) : List Val := rs.map (colAt i)
theorem col_fold (i : Int) (rs : List Row) : rs.foldl (fun k r => knBoth k (knOf (colAt i r))) Kn.zero = kfold (colVs i rs) := by
  unfold kfold colVs
  rw [List.foldl_map]
  rfl
theorem fits_kd {cs : List Col} {vs : List Val} (h : fitsRow cs vs = true) {i : Nat} (hi : i < cs.length) : KdOk (cs.getD i ⟨0, false⟩).kind (vs.getD i Val.zero) := by
  simp only [fitsRow, Bool.and_eq_true, rowOk, List.all_eq_true, decide_eq_true_eq] at h
  obtain ⟨⟨⟨_, h2, _⟩, hl⟩, h3⟩ := h
  have a1 := at_getD (⟨0, false⟩ : Col) hi
  have a2 := at_getD Val.zero (show i < vs.length by omega)
  refine ⟨h2 _ (List.mem_of_getElem? a2), ?_⟩
  have := h3 (cs.getD i ⟨0, false⟩, vs.getD i Val.zero) (List.mem_of_getElem? (List.getElem?_zip_eq_some.2 ⟨a1, a2⟩))
  simp only [fits1, Bool.or_eq_true, Bool.and_eq_true, decide_eq_true_eq] at this
  exact this.imp id (·.1)
theorem colVs_kd {cs : List Col} {rs : List Row} {i : Int} (h : rowsOk cs rs = true) (h0 : 0 ≤ i) (hi : i < cs.length) : ∀ v ∈ colVs i rs, KdOk (cs.getD i.toNat ⟨0, false⟩).kind v := by
  intro v hv
  obtain ⟨r, hr, rfl⟩ := List.mem_map.1 hv
  simp only [rowsOk, rowsFit, Bool.and_eq_true, List.all_eq_true] at h
  exact fits_kd (h.1 r hr) (by omega)
theorem knCol_eq {cs : List Col} {rs : List Row} {i : Int} (h : rowsOk cs rs = true) (hl : rs.length ≤ 100) (h0 : 0 ≤ i) (hi : i < cs.length) : knCol cs rs i = kfold (colVs i rs) := by
  unfold knCol
  rw [if_pos h, if_neg (by omega), if_pos (by omega), col_fold]
theorem knCol_ok (cs : List Col) (rs : List Row) (i : Int) : (knCol cs rs i).ok = true := by
  unfold knCol
  split
  · rename_i h
    split
    · rfl
    · split
      · rename_i h1 h2
        rw [col_fold]
        exact (kfold_good (colVs_kd h (by omega) (by omega)) (by simp [colVs]; omega)).1
      · rfl
  · rfl
/-- Of parts as much is known as of all. -/
theorem knCol_both {cs : List Col} {rs : List Row} {i : Int} (n : Nat) (h : rowsOk cs rs = true) (hl : rs.length ≤ 100) : knCol cs rs i = knBoth (knCol cs (rs.take n) i) (knCol cs (rs.drop n) i) := by
  have h1 : rowsOk cs (rs.take n) = true ∧ rowsOk cs (rs.drop n) = true := by
    simp only [rowsOk, rowsFit, Bool.and_eq_true, List.all_eq_true] at h ⊢
    exact ⟨⟨fun r hr => h.1 r (List.mem_of_mem_take hr), h.2⟩, ⟨fun r hr => h.1 r (List.mem_of_mem_drop hr), h.2⟩⟩
  by_cases hi : 0 ≤ i ∧ i ≤ (cs.length : Int) - 1
  · have l1 : (rs.take n).length ≤ 100 := by rw [List.length_take]; omega
    have l2 : (rs.drop n).length ≤ 100 := by rw [List.length_drop]; omega
    rw [knCol_eq h hl hi.1 (by omega), knCol_eq h1.1 l1 hi.1 (by omega), knCol_eq h1.2 l2 hi.1 (by omega)]
    have hk := colVs_kd h hi.1 (by omega)
    have e : colVs i rs = colVs i (rs.take n) ++ colVs i (rs.drop n) := by unfold colVs; rw [← List.map_append, List.take_append_drop]
    rw [e]
    refine kfold_append (colVs_kd h1.1 hi.1 (by omega)) (colVs_kd h1.2 hi.1 (by omega)) ?_
    simp only [colVs, List.length_map, List.length_take, List.length_drop]
    omega
  · have e : ∀ rs', knCol cs rs' i = Kn.zero := by
      intro rs'
      unfold knCol
      split
      · split
        · rfl
        · first | rfl | rw [if_neg hi]
      · rfl
    rw [e, e, e]
    rfl
end Go.Proofs.Ytnnjpiepoeknnaa.PE
/- Values, columns and rows that are drawn. -/
set_option linter.unusedSimpArgs false
set_option linter.unusedVariables false
set_option maxHeartbeats 4000000
namespace Go.Proofs.Ytnnjpiepoeknnaa.PE
open Go.RowKit

theorem loop_value' {d : Nat} {hp t : Heap} {c : Bool} {bs : List UInt8} {n : Int} (hb : bs.length ≤ 2000) (hhp : plainH hp = true) (ht : plainH t = true) {K : Nat} {p k : Int} {s : ByteArray} {Y : Out}
    (hL : LoopS (runD tab noExt (d + 1)) (drawI (runD tab noExt (d + 1))) [0, 1, 4, 5, 6] [0, 1, 4, 5] L145x0 (hp.length + (t.length + 3)) K [(0, .ptr hp.length 0 0 0), (1, .int .i64 n), (4, .ptr (hp.length + (t.length + 1)) 0 0 0), (5, .ptr (hp.length + (t.length + 2)) 0 0 0), (6, .int .i64 k)]
      (hp ++ .box [.sl c 1 (cellsOfBytes bs), .int .i64 (p)] :: (t ++ [.box [.int .i64 0, .int .i64 0, .str ⟨#[]⟩], .box [.int .i64 2, .int .i64 0, .str s]])) = Y)
    (hk : 0 ≤ k) (hk3 : k ≤ 3) (hK : 3 ≤ K) (hs : s.size ≤ 900) (hp0 : 0 ≤ p) (hq : p ≤ 1099510900000) : ∃ s' p', Y = some (.exit 1, [(0, .ptr hp.length 0 0 0), (1, .int .i64 n), (4, .ptr (hp.length + (t.length + 1)) 0 0 0), (5, .ptr (hp.length + (t.length + 2)) 0 0 0)],
      hp ++ .box [.sl c 1 (cellsOfBytes bs), .int .i64 (p')] :: (t ++ [.box [.int .i64 0, .int .i64 0, .str ⟨#[]⟩], .box [.int .i64 2, .int .i64 0, .str s']])) ∧ p ≤ p' ∧ p' ≤ p + 3 ∧ s'.size ≤ s.size + 3 := by
  obtain ⟨s', p', rfl, h1, h2, h3⟩ := loop_value hb hhp ht k.toNat K hL (by omega) (by omega) (by omega) (by omega) (by omega)
  exact ⟨s', p', rfl, h1, by omega, by omega⟩

theorem size_lit7 : (⟨#[97, 98, 99, 100, 101, 102, 103]⟩ : ByteArray).size = 7 := rfl
theorem size_lit1 : (⟨#[65]⟩ : ByteArray).size = 1 := rfl
-- find145
theorem ex_value {d : Nat} {hp t : Heap} {c : Bool} {bs : List UInt8} {p n : Int} {X : Option (V × Heap)} (hx : callS (runD tab noExt (d + 3)) (hp ++ .box [.sl c 1 (cellsOfBytes bs), .int .i64 (p)] :: t) 145 [.ptr hp.length 0 0 0, .int .i64 n] false = X)
    (hp0 : 0 ≤ p) (hq : p ≤ 1099510000000) (hb : bs.length ≤ 2000) (hhp : plainH hp = true) (ht : plainH t = true) :
    ∃ v p', X = some (Val.enc v, hp ++ .box [.sl c 1 (cellsOfBytes bs), .int .i64 (p')] :: t) ∧ p ≤ p' ∧ p' ≤ p + 20 ∧ GV v := by
  subst hx
  have hh : ∀ n, t.all (hiB n) = true := fun n => plainH_hi ht n
  have hhq : ∀ n, hp.all (hiB n) = true := fun n => plainH_hi hhp n
  rw [callS_eq, runD_eq find145 _ _ _ (by simp)]
  simp -implicitDefEqProofs only [go_sem, Nat.reduceBEq, Nat.reduceAdd, Nat.reduceSub, Nat.reduceMul, Nat.reduceLeDiff, Nat.reduceEqDiff, Nat.reduceLT, Int.reduceNeg, Int.reduceAdd, Int.reduceSub, Int.reduceMul, Int.reduceLE, Int.reduceLT, Int.reduceEq, Int.reduceToNat, reduceCtorEq]
  have hidx : ∀ m : Int, 0 ≤ m → m < 5 → ∃ x : Int, ([[.int .i64 9999], [.int .i64 (-9999)], [.int .i64 255], [.int .i64 256], [.int .i64 (-256)]] : List (List V))[m.toNat]? = some [.int .i64 x] := by
    intro m h0 h1
    rcases (by omega : m = 0 ∨ m = 1 ∨ m = 2 ∨ m = 3 ∨ m = 4) with rfl | rfl | rfl | rfl | rfl <;> exact ⟨_, rfl⟩
  repeat' (first | ((conv in (callS _ _ 104 _ false) => skip); generalize hx : callS (runD tab noExt _) (_ ++ _ :: _) 104 [_, .int .i64 5] false = X; obtain ⟨m, rfl, hm1, hm2⟩ := ex_pick hx (by omega) (by omega) hb hhp (by simp only [ht, plainH_nil, plainH_cons, plainH_append, plainB, List.all_cons, List.all_nil, Bool.and_self, Bool.and_true]) ; skip; clear hx; obtain ⟨x, hx1⟩ := hidx m hm1 (by omega); simp -implicitDefEqProofs (disch := omega) only [go_sem, Nat.reduceBEq, Nat.reduceAdd, Nat.reduceSub, Nat.reduceMul, Nat.reduceLeDiff, Nat.reduceEqDiff, Nat.reduceLT, Int.reduceNeg, Int.reduceAdd, Int.reduceSub, Int.reduceMul, Int.reduceLE, Int.reduceLT, Int.reduceEq, Int.reduceToNat, reduceCtorEq, IntWalk.i64_in, hh, hhq, List.all_append, size_lit7, size_lit1, empty_size, *]) | ((conv in (callS _ _ 104 _ false) => skip); generalize hx : callS (runD tab noExt _) (_ ++ _ :: _) 104 _ false = X; obtain ⟨m, rfl, hm1, hm2⟩ := ex_pick hx (by omega) (by omega) hb hhp (by simp only [ht, plainH_nil, plainH_cons, plainH_append, plainB, List.all_cons, List.all_nil, Bool.and_self, Bool.and_true]) ; skip; clear hx; simp -implicitDefEqProofs (disch := omega) only [go_sem, Nat.reduceBEq, Nat.reduceAdd, Nat.reduceSub, Nat.reduceMul, Nat.reduceLeDiff, Nat.reduceEqDiff, Nat.reduceLT, Int.reduceNeg, Int.reduceAdd, Int.reduceSub, Int.reduceMul, Int.reduceLE, Int.reduceLT, Int.reduceEq, Int.reduceToNat, reduceCtorEq, IntWalk.i64_in, hh, hhq, List.all_append, size_lit7, size_lit1, empty_size, *]) | ((conv in (callS _ _ 155 _ false) => skip); generalize hx : callS (runD tab noExt _) (_ ++ _ :: _) 155 _ false = X; obtain ⟨b, p', rfl, hm1, hm2, hm3⟩ := ex_odd hx (by omega) (by omega) hb hhp (by simp only [ht, plainH_nil, plainH_cons, plainH_append, plainB, List.all_cons, List.all_nil, Bool.and_self, Bool.and_true]) ; skip; clear hx; simp -implicitDefEqProofs (disch := omega) only [go_sem, Nat.reduceBEq, Nat.reduceAdd, Nat.reduceSub, Nat.reduceMul, Nat.reduceLeDiff, Nat.reduceEqDiff, Nat.reduceLT, Int.reduceNeg, Int.reduceAdd, Int.reduceSub, Int.reduceMul, Int.reduceLE, Int.reduceLT, Int.reduceEq, Int.reduceToNat, reduceCtorEq, IntWalk.i64_in, hh, hhq, List.all_append, size_lit7, size_lit1, empty_size, *]) | ((conv in (LoopS _ _ _ _ _ _ _ _ _) => skip); generalize hx : LoopS _ _ _ _ _ _ _ _ _ = Y; obtain ⟨s', p', rfl, h2, h3, h4⟩ := loop_value' hb hhp ht hx (by omega) (by omega) (by omega) (by have := empty_size; omega) (by omega) (by omega); clear hx; have h5 := empty_size; have hs1 : s'.size + 7 < 4294967296 := (by omega); have hs2 : s'.size + 1 < 4294967296 := (by omega); simp -implicitDefEqProofs (disch := omega) only [go_sem, Nat.reduceBEq, Nat.reduceAdd, Nat.reduceSub, Nat.reduceMul, Nat.reduceLeDiff, Nat.reduceEqDiff, Nat.reduceLT, Int.reduceNeg, Int.reduceAdd, Int.reduceSub, Int.reduceMul, Int.reduceLE, Int.reduceLT, Int.reduceEq, Int.reduceToNat, reduceCtorEq, IntWalk.i64_in, hh, hhq, List.all_append, size_lit7, size_lit1, empty_size, *]) | ((first | rw [GuardI_ndec] | rw [CondC_ndec] | rw [GuardQ_ndec] | rw [GuardV_ndec] | rw [GuardI_dec] | rw [CondC_dec] | rw [GuardQ_dec] | rw [GuardV_dec] | rw [GuardI_nby] | rw [CondC_nby] | rw [GuardQ_nby] | rw [GuardV_nby] | rw [GuardQ_by] | rw [GuardI_by] | rw [GuardV_by] | rw [CondC_by]) <;> split <;> simp -implicitDefEqProofs (disch := omega) only [go_sem, Nat.reduceBEq, Nat.reduceAdd, Nat.reduceSub, Nat.reduceMul, Nat.reduceLeDiff, Nat.reduceEqDiff, Nat.reduceLT, Int.reduceNeg, Int.reduceAdd, Int.reduceSub, Int.reduceMul, Int.reduceLE, Int.reduceLT, Int.reduceEq, Int.reduceToNat, reduceCtorEq, IntWalk.i64_in, hh, hhq, List.all_append, size_lit7, size_lit1, empty_size, *]))
  all_goals first | (exfalso; omega) | (refine ⟨⟨_, _, _⟩, _, rfl, ?_, ?_, ?_⟩ <;> first | omega | exact Nat.le_of_ble_eq_true rfl | exact Nat.le_trans (by assumption) (by decide) | (show ByteArray.size (_ ++ _) ≤ 20; rw [size_append']; (first | rw [size_lit7] | rw [size_lit1]); omega))
end Go.Proofs.Ytnnjpiepoeknnaa.PE
/- Columns and rows that are drawn. -/
set_option linter.unusedSimpArgs false
set_option linter.unusedVariables false
set_option maxHeartbeats 4000000
namespace Go.Proofs.Ytnnjpiepoeknnaa.PE
open Go.RowKit

def IsCol (x : List V) : Prop := ∃ k e, x = [.int .i64 k, .bool e]
def AllP (P : List V → Prop) (l : List (List V)) : Prop := ∀ x ∈ l, P x
theorem AllP.nil {P : List V → Prop} : AllP P [] := fun _ h => by cases h
theorem AllP.snoc {P : List V → Prop} {l : List (List V)} {x : List V} (h : AllP P l) (hx : P x) : AllP P (l ++ [x]) := fun y hy => by
  rcases List.mem_append.1 hy with h1 | h1
  · exact h y h1
  · rw [List.mem_singleton.1 h1]; exact hx
theorem AllP.append {P : List V → Prop} {l l' : List (List V)} (h : AllP P l) (h' : AllP P l') : AllP P (l ++ l') := fun y hy => by
  rcases List.mem_append.1 hy with h1 | h1
  · exact h y h1
  · exact h' y h1
theorem allP_map {α : Type} {P : List V → Prop} (f : α → List V) (hf : ∀ x, P x → ∃ a, x = f a) : ∀ {l : List (List V)}, AllP P l → ∃ zs : List α, l = zs.map f
  | [], _ => ⟨[], rfl⟩
  | x :: r, h => by
    obtain ⟨a, ha⟩ := hf x (h x List.mem_cons_self)
    obtain ⟨zs, has⟩ := allP_map f hf (fun y hy => h y (List.mem_cons_of_mem _ hy))
    exact ⟨a :: zs, by rw [ha, has]; rfl⟩
theorem cols_of {l : List (List V)} (h : AllP IsCol l) : ∃ cs : List Col, l = cs.map Col.cells := allP_map Col.cells (fun x ⟨k, e, hx⟩ => ⟨⟨k, e⟩, hx⟩) h

def ColsPost (j : Nat) (cont : List (List V)) (p : Int) (cont' : List (List V)) (p' : Int) : Prop := AllP IsCol cont' ∧ cont'.length = cont.length + j ∧ p ≤ p' ∧ p' ≤ p + 2 * j
-- find130
theorem loop_columns {d : Nat} {hp t : Heap} {c : Bool} {bs : List UInt8} {n : Int} (hb : bs.length ≤ 2000) (hhp : plainH hp = true) (ht : plainH t = true) : ∀ (j K : Nat) {p k : Int} {st len : Nat} {cont : List (List V)} {Y : Out},
    LoopS (runD tab noExt (d + 1)) (drawI (runD tab noExt (d + 1))) [0, 1, 5, 6] [0, 1, 5] L130x0 (hp.length + (t.length + 3)) K [(0, .ptr hp.length 0 0 0), (1, .int .i64 n), (5, .ref (hp.length + (t.length + 2)) st 0 len false), (6, .int .i64 k)]
      (hp ++ .box [.sl c 1 (cellsOfBytes bs), .int .i64 (p)] :: (t ++ [.rows 0 2 [], .rows st 2 cont])) = Y →
    k = j → j ≤ K → len = cont.length → cont.length + j ≤ 100 → AllP IsCol cont → 0 ≤ p → p + 2 * j ≤ 1099511000000 → ∃ cont' st' p', Y = some (.exit 0, [(0, .ptr hp.length 0 0 0), (1, .int .i64 n), (5, .ref (hp.length + (t.length + 2)) st' 0 cont'.length false)],
      hp ++ .box [.sl c 1 (cellsOfBytes bs), .int .i64 (p')] :: (t ++ [.rows 0 2 [], .rows st' 2 cont'])) ∧ ColsPost j cont p cont' p' := by
  have hh : ∀ n, t.all (hiB n) = true := fun n => plainH_hi ht n
  have hhq : ∀ n, hp.all (hiB n) = true := fun n => plainH_hi hhp n
  have hidx : ∀ m : Int, 0 ≤ m → m < 4 → ∃ x : Int, ([[.int .i64 1], [.int .i64 1], [.int .i64 2], [.int .i64 3]] : List (List V))[m.toNat]? = some [.int .i64 x] := by
    intro m h0 h1
    rcases (by omega : m = 0 ∨ m = 1 ∨ m = 2 ∨ m = 3) with rfl | rfl | rfl | rfl <;> exact ⟨_, rfl⟩
  intro j
  induction j with
  | zero =>
    intro K p k st len cont Y hL hk hK hlen hs hc hp0 hq
    subst hL hk hlen
    rw [LoopS_eq]
    simp -implicitDefEqProofs only [go_sem, Nat.reduceBEq, Nat.reduceAdd, Nat.reduceSub, Nat.reduceMul, Nat.reduceLeDiff, Nat.reduceEqDiff, Nat.reduceLT, Int.reduceNeg, Int.reduceAdd, Int.reduceSub, Int.reduceMul, Int.reduceLE, Int.reduceLT, Int.reduceEq, Int.reduceToNat, reduceCtorEq, evL130x0, B130x0, hh, hhq, List.all_append, Int.lt_irrefl, Int.natCast_zero]
    exact ⟨cont, st, p, rfl, hc, rfl, by omega, by omega⟩
  | succ j ih =>
    intro K p k st len cont Y hL hk hK hlen hs hc hp0 hq
    obtain ⟨K, rfl⟩ : ∃ K', K = K' + 1 := ⟨K - 1, by omega⟩
    subst hL hlen
    have hk0 : 0 < k := by omega
    have h1 : cont.length + 1 < 4294967296 := by omega
    rw [LoopS_eq]
    simp -implicitDefEqProofs (disch := omega) only [go_sem, Nat.reduceBEq, Nat.reduceAdd, Nat.reduceSub, Nat.reduceMul, Nat.reduceLeDiff, Nat.reduceEqDiff, Nat.reduceLT, Int.reduceNeg, Int.reduceAdd, Int.reduceSub, Int.reduceMul, Int.reduceLE, Int.reduceLT, Int.reduceEq, Int.reduceToNat, reduceCtorEq, evL130x0, B130x0, evC_draw, evD130x0, E130x0, hh, hhq, hk0, List.all_append]
    repeat' (first | ((conv in (callS _ _ 104 _ false) => skip); generalize hx : callS (runD tab noExt _) (_ ++ _ :: _) 104 [_, .int .i64 4] false = X; obtain ⟨m, rfl, hm1, hm2⟩ := ex_pick hx (by omega) (by omega) hb hhp (by simp only [ht, plainH_nil, plainH_cons, plainH_append, plainB, List.all_cons, List.all_nil, Bool.and_self, Bool.and_true]) ; skip;  obtain ⟨x, hx1⟩ := hidx m hm1 (by omega); simp -implicitDefEqProofs (disch := omega) only [go_sem, Nat.reduceBEq, Nat.reduceAdd, Nat.reduceSub, Nat.reduceMul, Nat.reduceLeDiff, Nat.reduceEqDiff, Nat.reduceLT, Int.reduceNeg, Int.reduceAdd, Int.reduceSub, Int.reduceMul, Int.reduceLE, Int.reduceLT, Int.reduceEq, Int.reduceToNat, reduceCtorEq, IntWalk.i64_in, hh, hhq, List.all_append, *]) | ((conv in (callS _ _ 104 _ false) => skip); generalize hx : callS (runD tab noExt _) (_ ++ _ :: _) 104 _ false = X; obtain ⟨m, rfl, hm1, hm2⟩ := ex_pick hx (by omega) (by omega) hb hhp (by simp only [ht, plainH_nil, plainH_cons, plainH_append, plainB, List.all_cons, List.all_nil, Bool.and_self, Bool.and_true]) ; skip;  simp -implicitDefEqProofs (disch := omega) only [go_sem, Nat.reduceBEq, Nat.reduceAdd, Nat.reduceSub, Nat.reduceMul, Nat.reduceLeDiff, Nat.reduceEqDiff, Nat.reduceLT, Int.reduceNeg, Int.reduceAdd, Int.reduceSub, Int.reduceMul, Int.reduceLE, Int.reduceLT, Int.reduceEq, Int.reduceToNat, reduceCtorEq, IntWalk.i64_in, hh, hhq, List.all_append, *]) | ((first | rw [GuardI_ndec] | rw [CondC_ndec] | rw [GuardQ_ndec] | rw [GuardV_ndec] | rw [GuardI_dec] | rw [CondC_dec] | rw [GuardQ_dec] | rw [GuardV_dec] | rw [GuardI_nby] | rw [CondC_nby] | rw [GuardQ_nby] | rw [GuardV_nby] | rw [GuardQ_by] | rw [GuardI_by] | rw [GuardV_by] | rw [CondC_by]) <;> split <;> simp -implicitDefEqProofs (disch := omega) only [go_sem, Nat.reduceBEq, Nat.reduceAdd, Nat.reduceSub, Nat.reduceMul, Nat.reduceLeDiff, Nat.reduceEqDiff, Nat.reduceLT, Int.reduceNeg, Int.reduceAdd, Int.reduceSub, Int.reduceMul, Int.reduceLE, Int.reduceLT, Int.reduceEq, Int.reduceToNat, reduceCtorEq, IntWalk.i64_in, hh, hhq, List.all_append, *]))
    generalize hL : LoopS _ _ _ _ _ _ _ _ _ = Y
    obtain ⟨cont', st', p', rfl, h2, h3, h4, h5⟩ := ih K hL (by omega) (by omega) (by simp) (by simp; omega) (hc.snoc ⟨_, _, rfl⟩) (by omega) (by omega)
    exact ⟨cont', st', p', rfl, h2, by simp at h3; omega, by omega, by omega⟩

theorem ex_columns {d : Nat} {hp t : Heap} {c : Bool} {bs : List UInt8} {p n : Int} {X : Option (V × Heap)} (hx : callS (runD tab noExt (d + 3)) (hp ++ .box [.sl c 1 (cellsOfBytes bs), .int .i64 (p)] :: t) 130 [.ptr hp.length 0 0 0, .int .i64 n] false = X)
    (hp0 : 0 ≤ p) (hq : p ≤ 1099510000000) (hb : bs.length ≤ 2000) (hhp : plainH hp = true) (ht : plainH t = true) :
    ∃ (cs : List Col) (p' : Int), X = some (.sl false 2 (cs.map Col.cells), hp ++ .box [.sl c 1 (cellsOfBytes bs), .int .i64 (p')] :: t) ∧ p ≤ p' ∧ p' ≤ p + 10 ∧ 1 ≤ cs.length ∧ cs.length ≤ 6 := by
  subst hx
  have hh : ∀ n, t.all (hiB n) = true := fun n => plainH_hi ht n
  have hhq : ∀ n, hp.all (hiB n) = true := fun n => plainH_hi hhp n
  rw [callS_eq, runD_eq find130 _ _ _ (by simp)]
  simp -implicitDefEqProofs only [go_sem, Nat.reduceBEq, Nat.reduceAdd, Nat.reduceSub, Nat.reduceMul, Nat.reduceLeDiff, Nat.reduceEqDiff, Nat.reduceLT, Int.reduceNeg, Int.reduceAdd, Int.reduceSub, Int.reduceMul, Int.reduceLE, Int.reduceLT, Int.reduceEq, Int.reduceToNat, reduceCtorEq, hh, hhq, List.all_append]
  generalize hx : callS (runD tab noExt _) _ 104 _ _ = X
  obtain ⟨m, rfl, hm1, hm2⟩ := ex_pick hx (by omega) (by omega) hb hhp (by simp only [ht, plainH_nil, plainH_cons, plainH_append, plainB, List.all_cons, List.all_nil, Bool.and_self, Bool.and_true])
  clear hx
  simp -implicitDefEqProofs (disch := omega) only [go_sem, Nat.reduceBEq, Nat.reduceAdd, Nat.reduceSub, Nat.reduceMul, Nat.reduceLeDiff, Nat.reduceEqDiff, Nat.reduceLT, Int.reduceNeg, Int.reduceAdd, Int.reduceSub, Int.reduceMul, Int.reduceLE, Int.reduceLT, Int.reduceEq, Int.reduceToNat, reduceCtorEq, IntWalk.i64_in, hh, hhq, List.all_append]
  generalize hx : LoopS _ _ _ _ _ _ _ _ _ = Y
  obtain ⟨cont, st, p1, rfl, h1, h2, h3, h4⟩ := loop_columns hb hhp ht (1 + m).toNat _ hx (by omega) (by omega) rfl (by simp; omega) AllP.nil (by omega) (by omega)
  clear hx
  simp only [List.length_nil, Nat.zero_add] at h2
  have h2a : 1 ≤ cont.length := by omega
  have h2b : cont.length ≤ 3 := by omega
  have h4' : p1 ≤ p + 7 := by omega
  clear h2 h4
  have h5 : cont.length + 3 < 4294967296 := by omega
  simp -implicitDefEqProofs (disch := omega) only [go_sem, Nat.reduceBEq, Nat.reduceAdd, Nat.reduceSub, Nat.reduceMul, Nat.reduceLeDiff, Nat.reduceEqDiff, Nat.reduceLT, Int.reduceNeg, Int.reduceAdd, Int.reduceSub, Int.reduceMul, Int.reduceLE, Int.reduceLT, Int.reduceEq, Int.reduceToNat, reduceCtorEq, hh, hhq, List.all_append]
  repeat' (first | ((conv in (callS _ _ 155 _ false) => skip); generalize hx : callS (runD tab noExt _) (_ ++ _ :: _) 155 _ false = X; obtain ⟨b, p', rfl, hm1, hm2, hm3⟩ := ex_odd hx (by omega) (by omega) hb hhp (by simp only [ht, plainH_nil, plainH_cons, plainH_append, plainB, List.all_cons, List.all_nil, Bool.and_self, Bool.and_true]) ; skip; clear hx; simp -implicitDefEqProofs (disch := omega) only [go_sem, Nat.reduceBEq, Nat.reduceAdd, Nat.reduceSub, Nat.reduceMul, Nat.reduceLeDiff, Nat.reduceEqDiff, Nat.reduceLT, Int.reduceNeg, Int.reduceAdd, Int.reduceSub, Int.reduceMul, Int.reduceLE, Int.reduceLT, Int.reduceEq, Int.reduceToNat, reduceCtorEq, IntWalk.i64_in, hh, hhq, List.all_append, List.take_length, *]) | ((conv in (callS _ _ 104 _ false) => skip); generalize hx : callS (runD tab noExt _) (_ ++ _ :: _) 104 _ false = X; obtain ⟨m, rfl, hm1, hm2⟩ := ex_pick hx (by omega) (by omega) hb hhp (by simp only [ht, plainH_nil, plainH_cons, plainH_append, plainB, List.all_cons, List.all_nil, Bool.and_self, Bool.and_true]) ; skip; clear hx; simp -implicitDefEqProofs (disch := omega) only [go_sem, Nat.reduceBEq, Nat.reduceAdd, Nat.reduceSub, Nat.reduceMul, Nat.reduceLeDiff, Nat.reduceEqDiff, Nat.reduceLT, Int.reduceNeg, Int.reduceAdd, Int.reduceSub, Int.reduceMul, Int.reduceLE, Int.reduceLT, Int.reduceEq, Int.reduceToNat, reduceCtorEq, IntWalk.i64_in, hh, hhq, List.all_append, List.take_length, *]) | ((first | rw [GuardI_ndec] | rw [CondC_ndec] | rw [GuardQ_ndec] | rw [GuardV_ndec] | rw [GuardI_dec] | rw [CondC_dec] | rw [GuardQ_dec] | rw [GuardV_dec] | rw [GuardI_nby] | rw [CondC_nby] | rw [GuardQ_nby] | rw [GuardV_nby] | rw [GuardQ_by] | rw [GuardI_by] | rw [GuardV_by] | rw [CondC_by]) <;> split <;> simp -implicitDefEqProofs (disch := omega) only [go_sem, Nat.reduceBEq, Nat.reduceAdd, Nat.reduceSub, Nat.reduceMul, Nat.reduceLeDiff, Nat.reduceEqDiff, Nat.reduceLT, Int.reduceNeg, Int.reduceAdd, Int.reduceSub, Int.reduceMul, Int.reduceLE, Int.reduceLT, Int.reduceEq, Int.reduceToNat, reduceCtorEq, IntWalk.i64_in, hh, hhq, List.all_append, List.take_length, *]))
  · have h6 : AllP IsCol (cont ++ [[.int .i64 (m - 1), .bool false], [.int .i64 1, .bool false], [.int .i64 1, .bool false]]) := by
      rw [show ∀ (a b c : List V), cont ++ [a, b, c] = ((cont ++ [a]) ++ [b]) ++ [c] from fun a b c => by simp]
      exact ((h1.snoc ⟨_, _, rfl⟩).snoc ⟨_, _, rfl⟩).snoc ⟨_, _, rfl⟩
    obtain ⟨cs, hcs⟩ := cols_of h6
    have hl := congrArg List.length hcs
    simp at hl
    exact ⟨cs, _, by rw [hcs], by omega, by omega, by omega, by omega⟩
  · obtain ⟨cs, hcs⟩ := cols_of h1
    have hl := congrArg List.length hcs
    simp at hl
    exact ⟨cs, _, by rw [hcs], by omega, by omega, by omega, by omega⟩
end Go.Proofs.Ytnnjpiepoeknnaa.PE
/- Rows and bags that are drawn. -/
set_option linter.unusedSimpArgs false
set_option linter.unusedVariables false
set_option maxHeartbeats 4000000
namespace Go.Proofs.Ytnnjpiepoeknnaa.PE
open Go.RowKit

def IsVal (x : List V) : Prop := ∃ (k n : Int) (s : ByteArray), s.size ≤ 20 ∧ x = [.int .i64 k, .int .i64 n, .str s]
theorem isVal_of {v : Val} (h : GV v) : IsVal v.cells := ⟨_, _, _, h, rfl⟩
theorem vals_of : ∀ {l : List (List V)}, AllP IsVal l → ∃ vs : List Val, l = vs.map Val.cells ∧ ∀ v ∈ vs, GV v
  | [], _ => ⟨[], rfl, fun _ h => by cases h⟩
  | x :: r, h => by
    obtain ⟨k, n, s, h1, h2⟩ := h x List.mem_cons_self
    obtain ⟨vs, h3, h4⟩ := vals_of (fun y hy => h y (List.mem_cons_of_mem _ hy))
    refine ⟨⟨k, n, s⟩ :: vs, by rw [h2, h3]; rfl, fun v hv => ?_⟩
    rcases List.mem_cons.1 hv with rfl | hv
    · exact h1
    · exact h4 v hv

def ValsPost (j q : Nat) (cont : List (List V)) (p : Int) (cont' : List (List V)) (p' : Int) : Prop := AllP IsVal cont' ∧ cont'.length = cont.length + j ∧ p ≤ p' ∧ p' ≤ p + q * j
theorem loop_fit {d : Nat} {hp t : Heap} {c c2 : Bool} {bs : List UInt8} {n : Int} {cs : List Col} (hb : bs.length ≤ 2000) (hhp : plainH hp = true) (ht : plainH t = true) (hcs : cs.length ≤ 1000) : ∀ (j K : Nat) {p k : Int} {st len : Nat} {cont : List (List V)} {Y : Out},
    LoopS (runD tab noExt (d + 2)) (drawI (runD tab noExt (d + 2))) [0, 1, 2, 7, 8] [0, 2, 7] L190x0 (hp.length + (t.length + 3)) K [(0, .ptr hp.length 0 0 0), (1, .sl c2 2 (cs.map Col.cells)), (2, .int .i64 n), (7, .ref (hp.length + (t.length + 2)) st 0 len false), (8, .int .i64 k)]
      (hp ++ .box [.sl c 1 (cellsOfBytes bs), .int .i64 (p)] :: (t ++ [.rows 0 3 [], .rows st 3 cont])) = Y →
    0 ≤ k → k + j = cs.length → j ≤ K → len = cont.length → cont.length + j ≤ 2000 → AllP IsVal cont → 0 ≤ p → p + 2 * j ≤ 1099511000000 → ∃ cont' st' p', Y = some (.exit 0, [(0, .ptr hp.length 0 0 0), (2, .int .i64 n), (7, .ref (hp.length + (t.length + 2)) st' 0 cont'.length false)],
      hp ++ .box [.sl c 1 (cellsOfBytes bs), .int .i64 (p')] :: (t ++ [.rows 0 3 [], .rows st' 3 cont'])) ∧ ValsPost j 2 cont p cont' p' := by
  have hh : ∀ n, t.all (hiB n) = true := fun n => plainH_hi ht n
  have hhq : ∀ n, hp.all (hiB n) = true := fun n => plainH_hi hhp n
  intro j
  induction j with
  | zero =>
    intro K p k st len cont Y hL hk0 hk hK hlen hs hc hp0 hq
    have hk' : k = cs.length := by omega
    subst hL hk' hlen
    rw [LoopS_eq]
    simp -implicitDefEqProofs only [go_sem, Nat.reduceBEq, Nat.reduceAdd, Nat.reduceSub, Nat.reduceMul, Nat.reduceLeDiff, Nat.reduceEqDiff, Nat.reduceLT, Int.reduceNeg, Int.reduceAdd, Int.reduceSub, Int.reduceMul, Int.reduceLE, Int.reduceLT, Int.reduceEq, Int.reduceToNat, reduceCtorEq, evL190x0, B190x0, hh, hhq, List.all_append, Int.lt_irrefl]
    exact ⟨cont, st, p, rfl, hc, rfl, by omega, by omega⟩
  | succ j ih =>
    intro K p k st len cont Y hL hk0 hk hK hlen hs hc hp0 hq
    obtain ⟨K, rfl⟩ : ∃ K', K = K' + 1 := ⟨K - 1, by omega⟩
    subst hL hlen
    have hk1 : k < cs.length := by omega
    have h1 : cont.length + 1 < 4294967296 := by omega
    have hat := at_getD (⟨0, false⟩ : Col) (show k.toNat < cs.length by omega)
    rw [LoopS_eq]
    simp -implicitDefEqProofs (disch := omega) only [go_sem, Nat.reduceBEq, Nat.reduceAdd, Nat.reduceSub, Nat.reduceMul, Nat.reduceLeDiff, Nat.reduceEqDiff, Nat.reduceLT, Int.reduceNeg, Int.reduceAdd, Int.reduceSub, Int.reduceMul, Int.reduceLE, Int.reduceLT, Int.reduceEq, Int.reduceToNat, reduceCtorEq, evL190x0, B190x0, hh, hhq, hk0, hk1, hat, Col.cells, List.all_append]
    generalize hx : callS (runD tab noExt _) (_ ++ _ :: _) 105 _ _ = X
    obtain ⟨v, p1, rfl, g1, g2, g3⟩ := ex_like hx (by omega) (by omega) hb hhp (by simp only [ht, plainH_nil, plainH_cons, plainH_append, plainB, List.all_cons, List.all_nil, Bool.and_self, Bool.and_true])
    clear hx
    simp -implicitDefEqProofs (disch := omega) only [go_sem, Nat.reduceBEq, Nat.reduceAdd, Nat.reduceSub, Nat.reduceMul, Nat.reduceLeDiff, Nat.reduceEqDiff, Nat.reduceLT, Int.reduceNeg, Int.reduceAdd, Int.reduceSub, Int.reduceMul, Int.reduceLE, Int.reduceLT, Int.reduceEq, Int.reduceToNat, reduceCtorEq, hh, hhq, List.all_append, IntWalk.i64_in, Val.enc, h1]
    generalize hL : LoopS _ _ _ _ _ _ _ _ _ = Y
    obtain ⟨cont', st', p', rfl, h2, h3, h4, h5⟩ := ih K hL (by omega) (by omega) (by omega) (by simp) (by simp; omega) (hc.snoc (isVal_of g3)) (by omega) (by omega)
    exact ⟨cont', st', p', rfl, h2, by simp at h3; omega, by omega, by omega⟩

theorem vals_at {l : List (List V)} (h : AllP IsVal l) {i : Nat} (hi : i < l.length) : ∃ (k n : Int) (s : ByteArray), l[i]? = some [.int .i64 k, .int .i64 n, .str s] := by
  obtain ⟨k, n, s, _, h2⟩ := h (l[i]) (List.getElem_mem hi)
  exact ⟨k, n, s, by rw [List.getElem?_eq_getElem hi, h2]⟩
theorem AllP.set {P : List V → Prop} {l : List (List V)} {x : List V} (h : AllP P l) (hx : P x) (i : Nat) : AllP P (l.set i x) := fun y hy => by
  rcases List.mem_or_eq_of_mem_set hy with h1 | h1
  · exact h y h1
  · rw [h1]; exact hx
/-- A drawn row. -/
def GR (vs : List Val) : Prop := vs.length ≤ 20 ∧ ∀ v ∈ vs, GV v
-- find190
theorem ex_fit {d : Nat} {hp t : Heap} {c c2 : Bool} {bs : List UInt8} {p n : Int} {cs : List Col} {X : Option (V × Heap)} (hx : callS (runD tab noExt (d + 4)) (hp ++ .box [.sl c 1 (cellsOfBytes bs), .int .i64 (p)] :: t) 190 [.ptr hp.length 0 0 0, .sl c2 2 (cs.map Col.cells), .int .i64 n] false = X)
    (hp0 : 0 ≤ p) (hq : p ≤ 1099500000000) (hb : bs.length ≤ 2000) (hhp : plainH hp = true) (ht : plainH t = true) (hcs : cs.length ≤ 10) :
    ∃ (vs : List Val) (p' : Int), X = some (.sl false 3 (vs.map Val.cells), hp ++ .box [.sl c 1 (cellsOfBytes bs), .int .i64 (p')] :: t) ∧ p ≤ p' ∧ p' ≤ p + 100 ∧ GR vs ∧ (n ≤ 0 → vs.length = cs.length) := by
  subst hx
  have hh : ∀ n, t.all (hiB n) = true := fun n => plainH_hi ht n
  have hhq : ∀ n, hp.all (hiB n) = true := fun n => plainH_hi hhp n
  rw [callS_eq, runD_eq find190 _ _ _ (by simp)]
  simp -implicitDefEqProofs (disch := omega) only [go_sem, Nat.reduceBEq, Nat.reduceAdd, Nat.reduceSub, Nat.reduceMul, Nat.reduceLeDiff, Nat.reduceEqDiff, Nat.reduceLT, Int.reduceNeg, Int.reduceAdd, Int.reduceSub, Int.reduceMul, Int.reduceLE, Int.reduceLT, Int.reduceEq, Int.reduceToNat, reduceCtorEq, hh, hhq, List.all_append]
  generalize hx : LoopS _ _ _ _ _ _ _ _ _ = Y
  obtain ⟨cont, st, p1, rfl, h1, h2, h3, h4⟩ := loop_fit hb hhp ht (by omega) cs.length _ hx (by omega) (by omega) (by omega) rfl (by simp; omega) AllP.nil (by omega) (by omega)
  clear hx
  simp only [List.length_nil, Nat.zero_add] at h2
  have h2a : cont.length ≤ 10 := by omega
  have h4' : p1 ≤ p + 20 := by omega
  have h5 : cont.length + 3 < 4294967296 := by omega
  have h6 : cont.length + 1 < 4294967296 := by omega
  have h2b : cont.length ≤ cs.length := by omega
  have h2c : cs.length ≤ cont.length := by omega
  clear h2 h4
  simp -implicitDefEqProofs (disch := omega) only [go_sem, Nat.reduceBEq, Nat.reduceAdd, Nat.reduceSub, Nat.reduceMul, Nat.reduceLeDiff, Nat.reduceEqDiff, Nat.reduceLT, Int.reduceNeg, Int.reduceAdd, Int.reduceSub, Int.reduceMul, Int.reduceLE, Int.reduceLT, Int.reduceEq, Int.reduceToNat, reduceCtorEq, hh, hhq, List.all_append]
  have fin : ∀ (l : List (List V)) (p' : Int), AllP IsVal l → l.length ≤ 20 → p ≤ p' → p' ≤ p + 100 → (n ≤ 0 → l.length = cs.length) → ∃ (vs : List Val) (p'' : Int), (some (.sl false 3 l, hp ++ .box [.sl c 1 (cellsOfBytes bs), .int .i64 (p')] :: t) : Option (V × Heap)) = some (.sl false 3 (vs.map Val.cells), hp ++ .box [.sl c 1 (cellsOfBytes bs), .int .i64 (p'')] :: t) ∧ p ≤ p'' ∧ p'' ≤ p + 100 ∧ GR vs ∧ (n ≤ 0 → vs.length = cs.length) := by
    intro l p' h1 h2 h3 h4 h5
    obtain ⟨vs, rfl, hv⟩ := vals_of h1
    simp only [List.length_map] at h2 h5
    exact ⟨vs, p', rfl, h3, h4, ⟨h2, hv⟩, h5⟩
  repeat' (first | ((conv in (callS _ _ 155 _ false) => skip); generalize hx : callS (runD tab noExt _) (_ ++ _ :: _) 155 _ false = X; obtain ⟨b, p', rfl, hm1, hm2, hm3⟩ := ex_odd hx (by omega) (by omega) hb hhp (by simp only [ht, plainH_nil, plainH_cons, plainH_append, plainB, List.all_cons, List.all_nil, Bool.and_self, Bool.and_true]) ; skip; clear hx; simp -implicitDefEqProofs (disch := omega) only [go_sem, Nat.reduceBEq, Nat.reduceAdd, Nat.reduceSub, Nat.reduceMul, Nat.reduceLeDiff, Nat.reduceEqDiff, Nat.reduceLT, Int.reduceNeg, Int.reduceAdd, Int.reduceSub, Int.reduceMul, Int.reduceLE, Int.reduceLT, Int.reduceEq, Int.reduceToNat, reduceCtorEq, IntWalk.i64_in, hh, hhq, List.all_append, List.take_length, Val.enc, List.length_set, List.contains_nil, *]) | ((conv in (callS _ _ 104 _ false) => skip); generalize hx : callS (runD tab noExt _) (_ ++ _ :: _) 104 [_, .int .i64 (cont.length : Int)] false = X; obtain ⟨m, rfl, hm1, hm2⟩ := ex_pick hx (by omega) (by omega) hb hhp (by simp only [ht, plainH_nil, plainH_cons, plainH_append, plainB, List.all_cons, List.all_nil, Bool.and_self, Bool.and_true]) ; skip; clear hx; have hlt : m.toNat < cont.length := (by omega); obtain ⟨y1, y2, y3, hy⟩ := vals_at h1 hlt; simp -implicitDefEqProofs (disch := omega) only [go_sem, Nat.reduceBEq, Nat.reduceAdd, Nat.reduceSub, Nat.reduceMul, Nat.reduceLeDiff, Nat.reduceEqDiff, Nat.reduceLT, Int.reduceNeg, Int.reduceAdd, Int.reduceSub, Int.reduceMul, Int.reduceLE, Int.reduceLT, Int.reduceEq, Int.reduceToNat, reduceCtorEq, IntWalk.i64_in, hh, hhq, List.all_append, List.take_length, Val.enc, List.length_set, List.contains_nil, *]) | ((conv in (callS _ _ 104 _ false) => skip); generalize hx : callS (runD tab noExt _) (_ ++ _ :: _) 104 _ false = X; obtain ⟨m, rfl, hm1, hm2⟩ := ex_pick hx (by omega) (by omega) hb hhp (by simp only [ht, plainH_nil, plainH_cons, plainH_append, plainB, List.all_cons, List.all_nil, Bool.and_self, Bool.and_true]) ; skip; clear hx; simp -implicitDefEqProofs (disch := omega) only [go_sem, Nat.reduceBEq, Nat.reduceAdd, Nat.reduceSub, Nat.reduceMul, Nat.reduceLeDiff, Nat.reduceEqDiff, Nat.reduceLT, Int.reduceNeg, Int.reduceAdd, Int.reduceSub, Int.reduceMul, Int.reduceLE, Int.reduceLT, Int.reduceEq, Int.reduceToNat, reduceCtorEq, IntWalk.i64_in, hh, hhq, List.all_append, List.take_length, Val.enc, List.length_set, List.contains_nil, *]) | ((conv in (callS _ _ 145 _ false) => skip); generalize hx : callS (runD tab noExt _) (_ ++ _ :: _) 145 _ false = X; obtain ⟨v, p', rfl, hv1, hv2, hv3⟩ := ex_value hx (by omega) (by omega) hb hhp (by simp only [ht, plainH_nil, plainH_cons, plainH_append, plainB, List.all_cons, List.all_nil, Bool.and_self, Bool.and_true]) ; skip; clear hx; simp -implicitDefEqProofs (disch := omega) only [go_sem, Nat.reduceBEq, Nat.reduceAdd, Nat.reduceSub, Nat.reduceMul, Nat.reduceLeDiff, Nat.reduceEqDiff, Nat.reduceLT, Int.reduceNeg, Int.reduceAdd, Int.reduceSub, Int.reduceMul, Int.reduceLE, Int.reduceLT, Int.reduceEq, Int.reduceToNat, reduceCtorEq, IntWalk.i64_in, hh, hhq, List.all_append, List.take_length, Val.enc, List.length_set, List.contains_nil, *]) | ((first | rw [GuardI_ndec] | rw [CondC_ndec] | rw [GuardQ_ndec] | rw [GuardV_ndec] | rw [GuardI_dec] | rw [CondC_dec] | rw [GuardQ_dec] | rw [GuardV_dec] | rw [GuardI_nby] | rw [CondC_nby] | rw [GuardQ_nby] | rw [GuardV_nby] | rw [GuardQ_by] | rw [GuardI_by] | rw [GuardV_by] | rw [CondC_by]) <;> split <;> simp -implicitDefEqProofs (disch := omega) only [go_sem, Nat.reduceBEq, Nat.reduceAdd, Nat.reduceSub, Nat.reduceMul, Nat.reduceLeDiff, Nat.reduceEqDiff, Nat.reduceLT, Int.reduceNeg, Int.reduceAdd, Int.reduceSub, Int.reduceMul, Int.reduceLE, Int.reduceLT, Int.reduceEq, Int.reduceToNat, reduceCtorEq, IntWalk.i64_in, hh, hhq, List.all_append, List.take_length, Val.enc, List.length_set, List.contains_nil, *]))
  · exact fin _ _ (h1.snoc ⟨_, _, _, Nat.zero_le _, rfl⟩) (by simp; omega) (by omega) (by omega) (fun h => by have := hm3 h; simp_all)
  · rw [show ∀ x, (cont.set m.toNat x).take cont.length = cont.set m.toNat x from fun x => List.take_of_length_le (by simp)]
    exact fin _ _ (h1.set (isVal_of hv3) _) (by simp; omega) (by omega) (by omega) (fun h => by have := hm3 h; simp_all)
  · skip
    rw [show ∀ (a b c : List V), cont ++ [a, b, c] = ((cont ++ [a]) ++ [b]) ++ [c] from fun a b c => by simp]
    refine fin _ _ (((h1.snoc ?_).snoc ?_).snoc ?_) (by simp; omega) (by omega) (by omega) (fun h => by have := hm3 h; simp_all)
    all_goals exact isVal_of (by assumption)

-- find126
theorem run_own (d : Nat) (c : Bool) (l : List (List V)) (hl : l.length < 4294967296) : retP (runD tab noExt (d + 1)) 126 [.sl c 3 l] = some [.sl false 3 l] := by
  rw [retP, runD_eq find126 _ _ _ (by simp)]
  have hl' : 0 + l.length < 4294967296 := by omega
  simp -implicitDefEqProofs (disch := omega) only [go_sem, Nat.reduceBEq, Nat.reduceAdd, Nat.reduceSub, Nat.reduceMul, Nat.reduceLeDiff, Nat.reduceEqDiff, Nat.reduceLT, Int.reduceNeg, Int.reduceAdd, Int.reduceSub, Int.reduceMul, Int.reduceLE, Int.reduceLT, Int.reduceEq, Int.reduceToNat, reduceCtorEq, List.take_length, hl, hl']

def IsRow1 (x : List V) : Prop := ∃ (c : Bool) (vs : List Val), GR vs ∧ x = [.sl c 3 (vs.map Val.cells)]
theorem rows_of : ∀ {l : List (List V)}, AllP IsRow1 l → ∃ rs : List Row, l = rs.map Row.cells ∧ ∀ r ∈ rs, GR r.vs
  | [], _ => ⟨[], rfl, fun _ h => by cases h⟩
  | x :: r, h => by
    obtain ⟨c, vs, h1, h2⟩ := h x List.mem_cons_self
    obtain ⟨rs, h3, h4⟩ := rows_of (fun y hy => h y (List.mem_cons_of_mem _ hy))
    refine ⟨⟨c, vs⟩ :: rs, by rw [h2, h3]; rfl, fun v hv => ?_⟩
    rcases List.mem_cons.1 hv with rfl | hv
    · exact h1
    · exact h4 v hv
theorem rows_at {l : List (List V)} (h : AllP IsRow1 l) {i : Nat} (hi : i < l.length) : ∃ (c : Bool) (vs : List Val), GR vs ∧ l[i]? = some [.sl c 3 (vs.map Val.cells)] := by
  obtain ⟨c, vs, h1, h2⟩ := h (l[i]) (List.getElem_mem hi)
  exact ⟨c, vs, h1, by rw [List.getElem?_eq_getElem hi, h2]⟩

def RowsPost (j : Nat) (cont : List (List V)) (p : Int) (cont' : List (List V)) (p' : Int) : Prop := AllP IsRow1 cont' ∧ cont'.length = cont.length + j ∧ p ≤ p' ∧ p' ≤ p + 110 * j
theorem loop_bag {d : Nat} {hp t : Heap} {c c2 : Bool} {bs : List UInt8} {n : Int} {cs : List Col} (hb : bs.length ≤ 2000) (hhp : plainH hp = true) (ht : plainH t = true) (hcs : cs.length ≤ 10) : ∀ (j K : Nat) {p k : Int} {st len : Nat} {cont : List (List V)} {Y : Out},
    LoopS (runD tab noExt (d + 4)) (drawI (runD tab noExt (d + 4))) [0, 1, 2, 7, 8] [7] L156x0 (hp.length + (t.length + 3)) K [(0, .ptr hp.length 0 0 0), (1, .sl c2 2 (cs.map Col.cells)), (2, .int .i64 n), (7, .ref (hp.length + (t.length + 2)) st 0 len false), (8, .int .i64 k)]
      (hp ++ .box [.sl c 1 (cellsOfBytes bs), .int .i64 (p)] :: (t ++ [.rows 0 1 [], .rows st 1 cont])) = Y →
    k = j → j ≤ K → len = cont.length → cont.length + j ≤ 2000 → AllP IsRow1 cont → 0 ≤ p → p + 110 * j ≤ 1099500000000 → ∃ cont' st' p', Y = some (.exit 0, [(7, .ref (hp.length + (t.length + 2)) st' 0 cont'.length false)],
      hp ++ .box [.sl c 1 (cellsOfBytes bs), .int .i64 (p')] :: (t ++ [.rows 0 1 [], .rows st' 1 cont'])) ∧ RowsPost j cont p cont' p' := by
  have hh : ∀ n, t.all (hiB n) = true := fun n => plainH_hi ht n
  have hhq : ∀ n, hp.all (hiB n) = true := fun n => plainH_hi hhp n
  intro j
  induction j with
  | zero =>
    intro K p k st len cont Y hL hk hK hlen hs hc hp0 hq
    subst hL hk hlen
    rw [LoopS_eq]
    simp -implicitDefEqProofs only [go_sem, Nat.reduceBEq, Nat.reduceAdd, Nat.reduceSub, Nat.reduceMul, Nat.reduceLeDiff, Nat.reduceEqDiff, Nat.reduceLT, Int.reduceNeg, Int.reduceAdd, Int.reduceSub, Int.reduceMul, Int.reduceLE, Int.reduceLT, Int.reduceEq, Int.reduceToNat, reduceCtorEq, evL156x0, B156x0, hh, hhq, List.all_append, Int.lt_irrefl, Int.natCast_zero]
    exact ⟨cont, st, p, rfl, hc, rfl, by omega, by omega⟩
  | succ j ih =>
    intro K p k st len cont Y hL hk hK hlen hs hc hp0 hq
    obtain ⟨K, rfl⟩ : ∃ K', K = K' + 1 := ⟨K - 1, by omega⟩
    subst hL hlen
    have hk0 : 0 < k := by omega
    have h1 : cont.length + 1 < 4294967296 := by omega
    rw [LoopS_eq]
    simp -implicitDefEqProofs (disch := omega) only [go_sem, Nat.reduceBEq, Nat.reduceAdd, Nat.reduceSub, Nat.reduceMul, Nat.reduceLeDiff, Nat.reduceEqDiff, Nat.reduceLT, Int.reduceNeg, Int.reduceAdd, Int.reduceSub, Int.reduceMul, Int.reduceLE, Int.reduceLT, Int.reduceEq, Int.reduceToNat, reduceCtorEq, evL156x0, B156x0, hh, hhq, hk0, List.all_append]
    repeat' (first | (exfalso; omega) | ((conv in (callS _ _ 104 _ false) => skip); generalize hx : callS (runD tab noExt _) (_ ++ _ :: _) 104 [_, .int .i64 (cont.length : Int)] false = X; obtain ⟨m, rfl, hm1, hm2⟩ := ex_pick hx (by omega) (by omega) hb hhp (by simp only [ht, plainH_nil, plainH_cons, plainH_append, plainB, List.all_cons, List.all_nil, Bool.and_self, Bool.and_true]) ; skip; clear hx; have hlt : m.toNat < cont.length := (by omega); obtain ⟨yc, ys, hyg, hy⟩ := rows_at hc hlt; have hown := run_own (d + 3) yc (ys.map Val.cells) (by rw [List.length_map]; exact Nat.lt_of_le_of_lt hyg.1 (by decide)); simp -implicitDefEqProofs (disch := omega) only [go_sem, Nat.reduceBEq, Nat.reduceAdd, Nat.reduceSub, Nat.reduceMul, Nat.reduceLeDiff, Nat.reduceEqDiff, Nat.reduceLT, Int.reduceNeg, Int.reduceAdd, Int.reduceSub, Int.reduceMul, Int.reduceLE, Int.reduceLT, Int.reduceEq, Int.reduceToNat, reduceCtorEq, IntWalk.i64_in, hh, hhq, List.all_append, List.length_set, *]) | ((conv in (callS _ _ 104 _ false) => skip); generalize hx : callS (runD tab noExt _) (_ ++ _ :: _) 104 _ false = X; obtain ⟨m, rfl, hm1, hm2⟩ := ex_pick hx (by omega) (by omega) hb hhp (by simp only [ht, plainH_nil, plainH_cons, plainH_append, plainB, List.all_cons, List.all_nil, Bool.and_self, Bool.and_true]) ; skip; clear hx; simp -implicitDefEqProofs (disch := omega) only [go_sem, Nat.reduceBEq, Nat.reduceAdd, Nat.reduceSub, Nat.reduceMul, Nat.reduceLeDiff, Nat.reduceEqDiff, Nat.reduceLT, Int.reduceNeg, Int.reduceAdd, Int.reduceSub, Int.reduceMul, Int.reduceLE, Int.reduceLT, Int.reduceEq, Int.reduceToNat, reduceCtorEq, IntWalk.i64_in, hh, hhq, List.all_append, List.length_set, *]) | ((conv in (callS _ _ 190 _ false) => skip); generalize hx : callS (runD tab noExt _) (_ ++ _ :: _) 190 _ false = X; obtain ⟨vs, p', rfl, hv1, hv2, hv3, hv4⟩ := ex_fit hx (by omega) (by omega) hb hhp (by simp only [ht, plainH_nil, plainH_cons, plainH_append, plainB, List.all_cons, List.all_nil, Bool.and_self, Bool.and_true]) hcs; skip; clear hx; simp -implicitDefEqProofs (disch := omega) only [go_sem, Nat.reduceBEq, Nat.reduceAdd, Nat.reduceSub, Nat.reduceMul, Nat.reduceLeDiff, Nat.reduceEqDiff, Nat.reduceLT, Int.reduceNeg, Int.reduceAdd, Int.reduceSub, Int.reduceMul, Int.reduceLE, Int.reduceLT, Int.reduceEq, Int.reduceToNat, reduceCtorEq, IntWalk.i64_in, hh, hhq, List.all_append, List.length_set, *]) | ((first | rw [GuardI_ndec] | rw [CondC_ndec] | rw [GuardQ_ndec] | rw [GuardV_ndec] | rw [GuardI_dec] | rw [CondC_dec] | rw [GuardQ_dec] | rw [GuardV_dec] | rw [GuardI_nby] | rw [CondC_nby] | rw [GuardQ_nby] | rw [GuardV_nby] | rw [GuardQ_by] | rw [GuardI_by] | rw [GuardV_by] | rw [CondC_by]) <;> split <;> simp -implicitDefEqProofs (disch := omega) only [go_sem, Nat.reduceBEq, Nat.reduceAdd, Nat.reduceSub, Nat.reduceMul, Nat.reduceLeDiff, Nat.reduceEqDiff, Nat.reduceLT, Int.reduceNeg, Int.reduceAdd, Int.reduceSub, Int.reduceMul, Int.reduceLE, Int.reduceLT, Int.reduceEq, Int.reduceToNat, reduceCtorEq, IntWalk.i64_in, hh, hhq, List.all_append, List.length_set, *]))
    all_goals
      generalize hL : LoopS _ _ _ _ _ _ _ _ _ = Y
      obtain ⟨cont', st', p', rfl, h2, h3, h4, h5⟩ := ih K hL (by omega) (by omega) (by simp) (by simp; omega) (hc.snoc ⟨_, _, by assumption, rfl⟩) (by omega) (by omega)
      exact ⟨cont', st', p', rfl, h2, by simp at h3; omega, by omega, by omega⟩

def BagPost (rs : List Row) : Prop := rs.length ≤ 6 ∧ ∀ r ∈ rs, GR r.vs
-- find156
theorem ex_bag {d : Nat} {hp t : Heap} {c c2 : Bool} {bs : List UInt8} {p n : Int} {cs : List Col} {X : Option (V × Heap)} (hx : callS (runD tab noExt (d + 5)) (hp ++ .box [.sl c 1 (cellsOfBytes bs), .int .i64 (p)] :: t) 156 [.ptr hp.length 0 0 0, .sl c2 2 (cs.map Col.cells), .int .i64 n] false = X)
    (hp0 : 0 ≤ p) (hq : p ≤ 1099400000000) (hb : bs.length ≤ 2000) (hhp : plainH hp = true) (ht : plainH t = true) (hcs : cs.length ≤ 10) :
    ∃ (rs : List Row) (p' : Int), X = some (.sl false 1 (rs.map Row.cells), hp ++ .box [.sl c 1 (cellsOfBytes bs), .int .i64 (p')] :: t) ∧ p ≤ p' ∧ p' ≤ p + 1000 ∧ BagPost rs := by
  subst hx
  have hh : ∀ n, t.all (hiB n) = true := fun n => plainH_hi ht n
  have hhq : ∀ n, hp.all (hiB n) = true := fun n => plainH_hi hhp n
  rw [callS_eq, runD_eq find156 _ _ _ (by simp)]
  simp -implicitDefEqProofs (disch := omega) only [go_sem, Nat.reduceBEq, Nat.reduceAdd, Nat.reduceSub, Nat.reduceMul, Nat.reduceLeDiff, Nat.reduceEqDiff, Nat.reduceLT, Int.reduceNeg, Int.reduceAdd, Int.reduceSub, Int.reduceMul, Int.reduceLE, Int.reduceLT, Int.reduceEq, Int.reduceToNat, reduceCtorEq, hh, hhq, List.all_append]
  generalize hx : callS (runD tab noExt _) _ 104 _ _ = X
  obtain ⟨m, rfl, hm1, hm2⟩ := ex_pick hx (by omega) (by omega) hb hhp (by simp only [ht, plainH_nil, plainH_cons, plainH_append, plainB, List.all_cons, List.all_nil, Bool.and_self, Bool.and_true])
  clear hx
  simp -implicitDefEqProofs (disch := omega) only [go_sem, Nat.reduceBEq, Nat.reduceAdd, Nat.reduceSub, Nat.reduceMul, Nat.reduceLeDiff, Nat.reduceEqDiff, Nat.reduceLT, Int.reduceNeg, Int.reduceAdd, Int.reduceSub, Int.reduceMul, Int.reduceLE, Int.reduceLT, Int.reduceEq, Int.reduceToNat, reduceCtorEq, IntWalk.i64_in, hh, hhq, List.all_append]
  generalize hx : LoopS _ _ _ _ _ _ _ _ _ = Y
  obtain ⟨cont, st, p1, rfl, h1, h2, h3, h4⟩ := loop_bag hb hhp ht hcs m.toNat _ hx (by omega) (by omega) rfl (by simp; omega) AllP.nil (by omega) (by omega)
  clear hx
  simp only [List.length_nil, Nat.zero_add] at h2
  obtain ⟨rs, rfl, h5⟩ := rows_of h1
  simp -implicitDefEqProofs (disch := omega) only [go_sem, Nat.reduceBEq, Nat.reduceAdd, Nat.reduceSub, Nat.reduceMul, Nat.reduceLeDiff, Nat.reduceEqDiff, Nat.reduceLT, Int.reduceNeg, Int.reduceAdd, Int.reduceSub, Int.reduceMul, Int.reduceLE, Int.reduceLT, Int.reduceEq, Int.reduceToNat, reduceCtorEq, hh, hhq, List.all_append, take_map_len]
  exact ⟨rs, p1, rfl, by omega, by omega, by simp at h2; omega, h5⟩
theorem exk_bag {d : Nat} {hp t : Heap} {c c2 : Bool} {bs : List UInt8} {p n : Int} {cs : List Col} {X : Option (V × Heap)} (hx : callS (runD tab noExt (d + 5)) (hp ++ .box [.sl c 1 (cellsOfBytes bs), .int .i64 (p)] :: t) 156 [.ptr hp.length 0 0 0, .sl c2 2 (cs.map Col.cells), .int .i64 n] true = X)
    (hp0 : 0 ≤ p) (hq : p ≤ 1099400000000) (hb : bs.length ≤ 2000) (hhp : plainH hp = true) (ht : plainH t = true) (hcs : cs.length ≤ 10) :
    ∃ (rs : List Row) (p' : Int), X = some (.ref (hp.length + (t.length + 1)) 0 0 rs.length false, hp ++ .box [.sl c 1 (cellsOfBytes bs), .int .i64 (p')] :: (t ++ [.rows 0 1 (rs.map Row.cells)])) ∧ p ≤ p' ∧ p' ≤ p + 1000 ∧ BagPost rs := by
  subst hx
  have hh : ∀ n, t.all (hiB n) = true := fun n => plainH_hi ht n
  have hhq : ∀ n, hp.all (hiB n) = true := fun n => plainH_hi hhp n
  rw [callS_eq, runD_eq find156 _ _ _ (by simp)]
  simp -implicitDefEqProofs (disch := omega) only [go_sem, Nat.reduceBEq, Nat.reduceAdd, Nat.reduceSub, Nat.reduceMul, Nat.reduceLeDiff, Nat.reduceEqDiff, Nat.reduceLT, Int.reduceNeg, Int.reduceAdd, Int.reduceSub, Int.reduceMul, Int.reduceLE, Int.reduceLT, Int.reduceEq, Int.reduceToNat, reduceCtorEq, hh, hhq, List.all_append]
  generalize hx : callS (runD tab noExt _) _ 104 _ _ = X
  obtain ⟨m, rfl, hm1, hm2⟩ := ex_pick hx (by omega) (by omega) hb hhp (by simp only [ht, plainH_nil, plainH_cons, plainH_append, plainB, List.all_cons, List.all_nil, Bool.and_self, Bool.and_true])
  clear hx
  simp -implicitDefEqProofs (disch := omega) only [go_sem, Nat.reduceBEq, Nat.reduceAdd, Nat.reduceSub, Nat.reduceMul, Nat.reduceLeDiff, Nat.reduceEqDiff, Nat.reduceLT, Int.reduceNeg, Int.reduceAdd, Int.reduceSub, Int.reduceMul, Int.reduceLE, Int.reduceLT, Int.reduceEq, Int.reduceToNat, reduceCtorEq, IntWalk.i64_in, hh, hhq, List.all_append]
  generalize hx : LoopS _ _ _ _ _ _ _ _ _ = Y
  obtain ⟨cont, st, p1, rfl, h1, h2, h3, h4⟩ := loop_bag hb hhp ht hcs m.toNat _ hx (by omega) (by omega) rfl (by simp; omega) AllP.nil (by omega) (by omega)
  clear hx
  simp only [List.length_nil, Nat.zero_add] at h2
  obtain ⟨rs, rfl, h5⟩ := rows_of h1
  simp -implicitDefEqProofs (disch := omega) only [go_sem, Nat.reduceBEq, Nat.reduceAdd, Nat.reduceSub, Nat.reduceMul, Nat.reduceLeDiff, Nat.reduceEqDiff, Nat.reduceLT, Int.reduceNeg, Int.reduceAdd, Int.reduceSub, Int.reduceMul, Int.reduceLE, Int.reduceLT, Int.reduceEq, Int.reduceToNat, reduceCtorEq, hh, hhq, List.all_append, take_map_len]
  exact ⟨rs, p1, rfl, by omega, by omega, by simp at h2; omega, h5⟩
end Go.Proofs.Ytnnjpiepoeknnaa.PE
/- What is drawn of a column's values. -/
set_option linter.unusedSimpArgs false
set_option linter.unusedVariables false
set_option maxHeartbeats 4000000
namespace Go.Proofs.Ytnnjpiepoeknnaa.PE
open Go.RowKit

-- find86
theorem ex_bounded {d : Nat} {hp t : Heap} {c : Bool} {bs : List UInt8} {p n : Int} {X : Option (V × Heap)} (hx : callS (runD tab noExt (d + 6)) (hp ++ .box [.sl c 1 (cellsOfBytes bs), .int .i64 (p)] :: t) 86 [.ptr hp.length 0 0 0, .int .i64 n] false = X)
    (hp0 : 0 ≤ p) (hq : p ≤ 1099300000000) (hb : bs.length ≤ 2000) (hhp : plainH hp = true) (ht : plainH t = true) :
    ∃ (cs : List Col) (rs : List Row) (i p' : Int), X = some (.tup [.sl false 2 (cs.map Col.cells), .sl false 1 (rs.map Row.cells), .int .i64 i], hp ++ .box [.sl c 1 (cellsOfBytes bs), .int .i64 (p')] :: t) ∧ p ≤ p' ∧ p' ≤ p + 3000 ∧ 1 ≤ cs.length ∧ cs.length ≤ 6 ∧ rs.length ≤ 12 ∧ (∀ r ∈ rs, GR r.vs) ∧ (n ≤ 0 → 0 ≤ i ∧ i < cs.length) := by
  subst hx
  have hh : ∀ n, t.all (hiB n) = true := fun n => plainH_hi ht n
  have hhq : ∀ n, hp.all (hiB n) = true := fun n => plainH_hi hhp n
  rw [callS_eq, runD_eq find86 _ _ _ (by simp)]
  simp -implicitDefEqProofs (disch := omega) only [go_sem, Nat.reduceBEq, Nat.reduceAdd, Nat.reduceSub, Nat.reduceMul, Nat.reduceLeDiff, Nat.reduceEqDiff, Nat.reduceLT, Int.reduceNeg, Int.reduceAdd, Int.reduceSub, Int.reduceMul, Int.reduceLE, Int.reduceLT, Int.reduceEq, Int.reduceToNat, reduceCtorEq, hh, hhq, List.all_append]
  generalize hx : callS (runD tab noExt _) _ 130 _ false = X
  obtain ⟨cs, p1, rfl, g1, g2, g3, g4⟩ := ex_columns hx (by omega) (by omega) hb hhp (by simp only [ht, plainH_nil, plainH_cons, plainH_append, plainB, List.all_cons, List.all_nil, Bool.and_self, Bool.and_true])
  clear hx
  have fin : ∀ (rs1 rs2 : List Row) (i p' : Int), BagPost rs1 → BagPost rs2 → p ≤ p' → p' ≤ p + 3000 → (n ≤ 0 → 0 ≤ i ∧ i < cs.length) → ∃ (cs' : List Col) (rs : List Row) (i' p'' : Int), (some (.tup [.sl false 2 (cs.map Col.cells), .sl false 1 (rs1.map Row.cells ++ rs2.map Row.cells), .int .i64 i], hp ++ .box [.sl c 1 (cellsOfBytes bs), .int .i64 (p')] :: t) : Option (V × Heap)) = some (.tup [.sl false 2 (cs'.map Col.cells), .sl false 1 (rs.map Row.cells), .int .i64 i'], hp ++ .box [.sl c 1 (cellsOfBytes bs), .int .i64 (p'')] :: t) ∧ p ≤ p'' ∧ p'' ≤ p + 3000 ∧ 1 ≤ cs'.length ∧ cs'.length ≤ 6 ∧ rs.length ≤ 12 ∧ (∀ r ∈ rs, GR r.vs) ∧ (n ≤ 0 → 0 ≤ i' ∧ i' < cs'.length) := by
    intro rs1 rs2 i p' ⟨h1, h2⟩ ⟨h3, h4⟩ h5 h6 h7
    refine ⟨cs, rs1 ++ rs2, i, p', by rw [List.map_append], h5, h6, g3, g4, by simp; omega, fun r hr => ?_, h7⟩
    rcases List.mem_append.1 hr with hr | hr
    · exact h2 r hr
    · exact h4 r hr
  simp -implicitDefEqProofs (disch := omega) only [go_sem, Nat.reduceBEq, Nat.reduceAdd, Nat.reduceSub, Nat.reduceMul, Nat.reduceLeDiff, Nat.reduceEqDiff, Nat.reduceLT, Int.reduceNeg, Int.reduceAdd, Int.reduceSub, Int.reduceMul, Int.reduceLE, Int.reduceLT, Int.reduceEq, Int.reduceToNat, reduceCtorEq, IntWalk.i64_in, hh, hhq, List.all_append]
  repeat' (first | ((conv in (callS _ _ 155 _ false) => skip); generalize hx : callS (runD tab noExt _) (_ ++ _ :: _) 155 _ false = X; obtain ⟨b, p', rfl, hm1, hm2, hm3⟩ := ex_odd hx (by omega) (by omega) hb hhp (by simp only [ht, plainH_nil, plainH_cons, plainH_append, plainB, List.all_cons, List.all_nil, Bool.and_self, Bool.and_true]) ; skip; clear hx; simp -implicitDefEqProofs (disch := omega) only [go_sem, Nat.reduceBEq, Nat.reduceAdd, Nat.reduceSub, Nat.reduceMul, Nat.reduceLeDiff, Nat.reduceEqDiff, Nat.reduceLT, Int.reduceNeg, Int.reduceAdd, Int.reduceSub, Int.reduceMul, Int.reduceLE, Int.reduceLT, Int.reduceEq, Int.reduceToNat, reduceCtorEq, IntWalk.i64_in, hh, hhq, List.all_append, *]) | ((conv in (callS _ _ 104 _ false) => skip); generalize hx : callS (runD tab noExt _) (_ ++ _ :: _) 104 _ false = X; obtain ⟨m, rfl, hn1, hn2⟩ := ex_pick hx (by omega) (by omega) hb hhp (by simp only [ht, plainH_nil, plainH_cons, plainH_append, plainB, List.all_cons, List.all_nil, Bool.and_self, Bool.and_true]) ; skip; clear hx; simp -implicitDefEqProofs (disch := omega) only [go_sem, Nat.reduceBEq, Nat.reduceAdd, Nat.reduceSub, Nat.reduceMul, Nat.reduceLeDiff, Nat.reduceEqDiff, Nat.reduceLT, Int.reduceNeg, Int.reduceAdd, Int.reduceSub, Int.reduceMul, Int.reduceLE, Int.reduceLT, Int.reduceEq, Int.reduceToNat, reduceCtorEq, IntWalk.i64_in, hh, hhq, List.all_append, *]) | ((conv in (callS _ _ 156 _ true) => skip); generalize hx : callS (runD tab noExt _) (_ ++ _ :: _) 156 _ true = X; obtain ⟨rs1, p', rfl, hb1, hb2, hb3⟩ := exk_bag hx (by omega) (by omega) hb hhp (by simp only [ht, plainH_nil, plainH_cons, plainH_append, plainB, List.all_cons, List.all_nil, Bool.and_self, Bool.and_true]) (by omega); skip; clear hx; simp -implicitDefEqProofs (disch := omega) only [go_sem, Nat.reduceBEq, Nat.reduceAdd, Nat.reduceSub, Nat.reduceMul, Nat.reduceLeDiff, Nat.reduceEqDiff, Nat.reduceLT, Int.reduceNeg, Int.reduceAdd, Int.reduceSub, Int.reduceMul, Int.reduceLE, Int.reduceLT, Int.reduceEq, Int.reduceToNat, reduceCtorEq, IntWalk.i64_in, hh, hhq, List.all_append, *]) | ((conv in (callS _ _ 156 _ false) => skip); generalize hx : callS (runD tab noExt _) (_ ++ _ :: _) 156 _ false = X; obtain ⟨rs2, p', rfl, hc1, hc2, hc3⟩ := ex_bag hx (by omega) (by omega) hb hhp (by simp only [ht, plainH_nil, plainH_cons, plainH_append, plainB, List.all_cons, List.all_nil, Bool.and_self, Bool.and_true]) (by omega); skip; clear hx; have hl1 : rs1.length + rs2.length < 4294967296 := (by have := hb3.1; have := hc3.1; omega); simp -implicitDefEqProofs (disch := omega) only [go_sem, Nat.reduceBEq, Nat.reduceAdd, Nat.reduceSub, Nat.reduceMul, Nat.reduceLeDiff, Nat.reduceEqDiff, Nat.reduceLT, Int.reduceNeg, Int.reduceAdd, Int.reduceSub, Int.reduceMul, Int.reduceLE, Int.reduceLT, Int.reduceEq, Int.reduceToNat, reduceCtorEq, IntWalk.i64_in, hh, hhq, List.all_append, *]) | ((first | rw [GuardI_ndec] | rw [CondC_ndec] | rw [GuardQ_ndec] | rw [GuardV_ndec] | rw [GuardI_dec] | rw [CondC_dec] | rw [GuardQ_dec] | rw [GuardV_dec] | rw [GuardI_nby] | rw [CondC_nby] | rw [GuardQ_nby] | rw [GuardV_nby] | rw [GuardQ_by] | rw [GuardI_by] | rw [GuardV_by] | rw [CondC_by]) <;> split <;> simp -implicitDefEqProofs (disch := omega) only [go_sem, Nat.reduceBEq, Nat.reduceAdd, Nat.reduceSub, Nat.reduceMul, Nat.reduceLeDiff, Nat.reduceEqDiff, Nat.reduceLT, Int.reduceNeg, Int.reduceAdd, Int.reduceSub, Int.reduceMul, Int.reduceLE, Int.reduceLT, Int.reduceEq, Int.reduceToNat, reduceCtorEq, IntWalk.i64_in, hh, hhq, List.all_append, *]))
  all_goals rw [List.take_of_length_le (by simp)]
  · exact fin rs1 rs2 _ _ hb3 hc3 (by omega) (by omega) (fun h => by have := hm3 h; simp_all)
  · exact fin rs1 rs2 _ _ hb3 hc3 (by omega) (by omega) (fun h => by omega)

/-- What is known, in a variable. -/
-- find146
theorem loop_known {d : Nat} {hp t : Heap} {c : Bool} {bs : List UInt8} {n kd : Int} (hb : bs.length ≤ 2000) (hhp : plainH hp = true) (ht : plainH t = true) : ∀ (j K : Nat) {p k am au alk aln agk agn : Int} {alq agq : ByteArray} {Y : Out},
    LoopS (runD tab noExt (d + 5)) (drawI (runD tab noExt (d + 5))) [0, 1, 2, 6, 7, 8] [0, 1, 6, 7] L146x0 (hp.length + (t.length + 3)) K [(0, .ptr hp.length 0 0 0), (1, .int .i64 n), (2, .int .i64 kd), (6, .ptr (hp.length + (t.length + 1)) 0 0 0), (7, .ptr (hp.length + (t.length + 2)) 0 0 0), (8, .int .i64 k)]
      (hp ++ .box [.sl c 1 (cellsOfBytes bs), .int .i64 (p)] :: (t ++ [.box [.int .i64 0, .int .i64 0, .int .i64 0, .int .i64 0, .str ⟨#[]⟩, .int .i64 0, .int .i64 0, .str ⟨#[]⟩], .box [.int .i64 am, .int .i64 au, .int .i64 alk, .int .i64 aln, .str alq, .int .i64 agk, .int .i64 agn, .str agq]])) = Y →
    k = j → j ≤ K → 0 ≤ p → p + 2 * j ≤ 1099500000000 → alq.size < 1099511627776 → agq.size < 1099511627776 → ∃ (k' : Kn) (p' : Int), Y = some (.exit 0, [(0, .ptr hp.length 0 0 0), (1, .int .i64 n), (6, .ptr (hp.length + (t.length + 1)) 0 0 0), (7, .ptr (hp.length + (t.length + 2)) 0 0 0)],
      hp ++ .box [.sl c 1 (cellsOfBytes bs), .int .i64 (p')] :: (t ++ [.box [.int .i64 0, .int .i64 0, .int .i64 0, .int .i64 0, .str ⟨#[]⟩, .int .i64 0, .int .i64 0, .str ⟨#[]⟩], .box k'.cells])) ∧ p ≤ p' ∧ p' ≤ p + 2 * j ∧ k'.short := by
  have hh : ∀ n, t.all (hiB n) = true := fun n => plainH_hi ht n
  have hhq : ∀ n, hp.all (hiB n) = true := fun n => plainH_hi hhp n
  intro j
  induction j with
  | zero =>
    intro K p k am au alk aln agk agn alq agq Y hL hk hK hp0 hq hs1 hs2
    subst hL hk
    rw [LoopS_eq]
    simp -implicitDefEqProofs only [go_sem, Nat.reduceBEq, Nat.reduceAdd, Nat.reduceSub, Nat.reduceMul, Nat.reduceLeDiff, Nat.reduceEqDiff, Nat.reduceLT, Int.reduceNeg, Int.reduceAdd, Int.reduceSub, Int.reduceMul, Int.reduceLE, Int.reduceLT, Int.reduceEq, Int.reduceToNat, reduceCtorEq, evL146x0, B146x0, hh, hhq, List.all_append, Int.lt_irrefl, Int.natCast_zero]
    exact ⟨(⟨am, au, (⟨alk, aln, alq⟩ : Val), (⟨agk, agn, agq⟩ : Val)⟩ : Kn), p, rfl, by omega, by omega, hs1, hs2⟩
  | succ j ih =>
    intro K p k am au alk aln agk agn alq agq Y hL hk hK hp0 hq hs1 hs2
    obtain ⟨K, rfl⟩ : ∃ K', K = K' + 1 := ⟨K - 1, by omega⟩
    subst hL
    have hk0 : 0 < k := by omega
    rw [LoopS_eq]
    simp -implicitDefEqProofs (disch := omega) only [go_sem, Nat.reduceBEq, Nat.reduceAdd, Nat.reduceSub, Nat.reduceMul, Nat.reduceLeDiff, Nat.reduceEqDiff, Nat.reduceLT, Int.reduceNeg, Int.reduceAdd, Int.reduceSub, Int.reduceMul, Int.reduceLE, Int.reduceLT, Int.reduceEq, Int.reduceToNat, reduceCtorEq, evL146x0, B146x0, evC_draw, evD146x0, E146x0, hh, hhq, hk0, List.all_append]
    generalize hx : callS (runD tab noExt _) _ 105 _ false = X
    obtain ⟨v, p1, rfl, g1, g2, g3⟩ := ex_like hx (by omega) (by omega) hb hhp (by simp only [ht, plainH_nil, plainH_cons, plainH_append, plainB, List.all_cons, List.all_nil, Bool.and_self, Bool.and_true])
    have g4 : v.s.size < 1099511627776 := Nat.lt_of_le_of_lt g3 (by decide)
    obtain ⟨g5, g6⟩ := knOf_short g4
    obtain ⟨g7, g8⟩ := knBoth_short (a := (⟨am, au, (⟨alk, aln, alq⟩ : Val), (⟨agk, agn, agq⟩ : Val)⟩ : Kn)) ⟨hs1, hs2⟩ ⟨g5, g6⟩
    simp -implicitDefEqProofs (disch := first | omega | assumption) only [go_sem, Nat.reduceBEq, Nat.reduceAdd, Nat.reduceSub, Nat.reduceMul, Nat.reduceLeDiff, Nat.reduceEqDiff, Nat.reduceLT, Int.reduceNeg, Int.reduceAdd, Int.reduceSub, Int.reduceMul, Int.reduceLE, Int.reduceLT, Int.reduceEq, Int.reduceToNat, reduceCtorEq, hx, hh, hhq, List.all_append, IntWalk.i64_in, Val.enc, run_knOf, Kn.cells, run_knBoth, Val.eta, Kn.eta]
    generalize hL : LoopS _ _ _ _ _ _ _ _ _ = Y
    obtain ⟨k', p', rfl, h2, h3, h4⟩ := ih K hL (by omega) (by omega) (by omega) (by omega) g7 g8
    exact ⟨k', p', rfl, by omega, by omega, h4⟩

theorem ex_known {d : Nat} {hp t : Heap} {c : Bool} {bs : List UInt8} {p n kd : Int} {X : Option (V × Heap)} (hx : callS (runD tab noExt (d + 6)) (hp ++ .box [.sl c 1 (cellsOfBytes bs), .int .i64 (p)] :: t) 146 [.ptr hp.length 0 0 0, .int .i64 n, .int .i64 kd] false = X)
    (hp0 : 0 ≤ p) (hq : p ≤ 1099300000000) (hb : bs.length ≤ 2000) (hhp : plainH hp = true) (ht : plainH t = true) :
    ∃ (k : Kn) (p' : Int), X = some (.agg k.cells, hp ++ .box [.sl c 1 (cellsOfBytes bs), .int .i64 (p')] :: t) ∧ p ≤ p' ∧ p' ≤ p + 100 ∧ k.short := by
  subst hx
  have hh : ∀ n, t.all (hiB n) = true := fun n => plainH_hi ht n
  have hhq : ∀ n, hp.all (hiB n) = true := fun n => plainH_hi hhp n
  rw [callS_eq, runD_eq find146 _ _ _ (by simp)]
  simp -implicitDefEqProofs (disch := omega) only [go_sem, Nat.reduceBEq, Nat.reduceAdd, Nat.reduceSub, Nat.reduceMul, Nat.reduceLeDiff, Nat.reduceEqDiff, Nat.reduceLT, Int.reduceNeg, Int.reduceAdd, Int.reduceSub, Int.reduceMul, Int.reduceLE, Int.reduceLT, Int.reduceEq, Int.reduceToNat, reduceCtorEq, hh, hhq, List.all_append]
  generalize hx : callS (runD tab noExt _) _ 104 _ false = X
  obtain ⟨m, rfl, hm1, hm2⟩ := ex_pick hx (by omega) (by omega) hb hhp (by simp only [ht, plainH_nil, plainH_cons, plainH_append, plainB, List.all_cons, List.all_nil, Bool.and_self, Bool.and_true])
  clear hx
  simp -implicitDefEqProofs (disch := omega) only [go_sem, Nat.reduceBEq, Nat.reduceAdd, Nat.reduceSub, Nat.reduceMul, Nat.reduceLeDiff, Nat.reduceEqDiff, Nat.reduceLT, Int.reduceNeg, Int.reduceAdd, Int.reduceSub, Int.reduceMul, Int.reduceLE, Int.reduceLT, Int.reduceEq, Int.reduceToNat, reduceCtorEq, IntWalk.i64_in, hh, hhq, List.all_append]
  generalize hx : LoopS _ _ _ _ _ _ _ _ _ = Y
  obtain ⟨k, p1, rfl, h1, h2, h3⟩ := loop_known hb hhp ht m.toNat _ hx (by omega) (by omega) (by omega) (by omega) (by have := empty_size; omega) (by have := empty_size; omega)
  clear hx
  obtain ⟨h3, h4⟩ := h3
  have h2' : p1 ≤ p + 10 := by omega
  clear h2
  have fin : ∀ (a b : Int) (l : Val) (q : Int), p ≤ q → q ≤ p + 100 → l.s.size < 1099511627776 → ∃ (k' : Kn) (p' : Int), (some (.agg [.int .i64 a, .int .i64 b, .int .i64 l.kind, .int .i64 l.n, .str l.s, .int .i64 k.most.kind, .int .i64 k.most.n, .str k.most.s], hp ++ .box [.sl c 1 (cellsOfBytes bs), .int .i64 (q)] :: t) : Option (V × Heap)) = some (.agg k'.cells, hp ++ .box [.sl c 1 (cellsOfBytes bs), .int .i64 (p')] :: t) ∧ p ≤ p' ∧ p' ≤ p + 100 ∧ k'.short :=
    fun a b l q h5 h6 h7 => ⟨⟨a, b, l, k.most⟩, q, rfl, h5, h6, h7, h4⟩
  simp -implicitDefEqProofs (disch := omega) only [go_sem, Nat.reduceBEq, Nat.reduceAdd, Nat.reduceSub, Nat.reduceMul, Nat.reduceLeDiff, Nat.reduceEqDiff, Nat.reduceLT, Int.reduceNeg, Int.reduceAdd, Int.reduceSub, Int.reduceMul, Int.reduceLE, Int.reduceLT, Int.reduceEq, Int.reduceToNat, reduceCtorEq, Kn.cells, IntWalk.i64_in, hh, hhq, List.all_append]
  repeat' (first | ((conv in (callS _ _ 155 _ false) => skip); generalize hx : callS (runD tab noExt _) (_ ++ _ :: _) 155 _ false = X; obtain ⟨b, p', rfl, hm1, hm2, hm3⟩ := ex_odd hx (by omega) (by omega) hb hhp (by simp only [ht, plainH_nil, plainH_cons, plainH_append, plainB, List.all_cons, List.all_nil, Bool.and_self, Bool.and_true]) ; skip; clear hx; simp -implicitDefEqProofs (disch := omega) only [go_sem, Nat.reduceBEq, Nat.reduceAdd, Nat.reduceSub, Nat.reduceMul, Nat.reduceLeDiff, Nat.reduceEqDiff, Nat.reduceLT, Int.reduceNeg, Int.reduceAdd, Int.reduceSub, Int.reduceMul, Int.reduceLE, Int.reduceLT, Int.reduceEq, Int.reduceToNat, reduceCtorEq, IntWalk.i64_in, hh, hhq, List.all_append, Val.enc, *]) | ((conv in (callS _ _ 104 _ false) => skip); generalize hx : callS (runD tab noExt _) (_ ++ _ :: _) 104 _ false = X; obtain ⟨m, rfl, hn1, hn2⟩ := ex_pick hx (by omega) (by omega) hb hhp (by simp only [ht, plainH_nil, plainH_cons, plainH_append, plainB, List.all_cons, List.all_nil, Bool.and_self, Bool.and_true]) ; skip; clear hx; simp -implicitDefEqProofs (disch := omega) only [go_sem, Nat.reduceBEq, Nat.reduceAdd, Nat.reduceSub, Nat.reduceMul, Nat.reduceLeDiff, Nat.reduceEqDiff, Nat.reduceLT, Int.reduceNeg, Int.reduceAdd, Int.reduceSub, Int.reduceMul, Int.reduceLE, Int.reduceLT, Int.reduceEq, Int.reduceToNat, reduceCtorEq, IntWalk.i64_in, hh, hhq, List.all_append, Val.enc, *]) | ((conv in (callS _ _ 145 _ false) => skip); generalize hx : callS (runD tab noExt _) (_ ++ _ :: _) 145 _ false = X; obtain ⟨v, p', rfl, hv1, hv2, hv3⟩ := ex_value hx (by omega) (by omega) hb hhp (by simp only [ht, plainH_nil, plainH_cons, plainH_append, plainB, List.all_cons, List.all_nil, Bool.and_self, Bool.and_true]) ; skip; clear hx; have hv4 : v.s.size < 1099511627776 := (Nat.lt_of_le_of_lt hv3 (by decide)); simp -implicitDefEqProofs (disch := omega) only [go_sem, Nat.reduceBEq, Nat.reduceAdd, Nat.reduceSub, Nat.reduceMul, Nat.reduceLeDiff, Nat.reduceEqDiff, Nat.reduceLT, Int.reduceNeg, Int.reduceAdd, Int.reduceSub, Int.reduceMul, Int.reduceLE, Int.reduceLT, Int.reduceEq, Int.reduceToNat, reduceCtorEq, IntWalk.i64_in, hh, hhq, List.all_append, Val.enc, *]) | ((first | rw [GuardI_ndec] | rw [CondC_ndec] | rw [GuardQ_ndec] | rw [GuardV_ndec] | rw [GuardI_dec] | rw [CondC_dec] | rw [GuardQ_dec] | rw [GuardV_dec] | rw [GuardI_nby] | rw [CondC_nby] | rw [GuardQ_nby] | rw [GuardV_nby] | rw [GuardQ_by] | rw [GuardI_by] | rw [GuardV_by] | rw [CondC_by]) <;> split <;> simp -implicitDefEqProofs (disch := omega) only [go_sem, Nat.reduceBEq, Nat.reduceAdd, Nat.reduceSub, Nat.reduceMul, Nat.reduceLeDiff, Nat.reduceEqDiff, Nat.reduceLT, Int.reduceNeg, Int.reduceAdd, Int.reduceSub, Int.reduceMul, Int.reduceLE, Int.reduceLT, Int.reduceEq, Int.reduceToNat, reduceCtorEq, IntWalk.i64_in, hh, hhq, List.all_append, Val.enc, *]))
  all_goals exact fin _ _ ⟨_, _, _⟩ _ (by omega) (by omega) (by assumption)
end Go.Proofs.Ytnnjpiepoeknnaa.PE
/- What the laws of bounds draw. -/
set_option linter.unusedSimpArgs false
set_option linter.unusedVariables false
set_option maxHeartbeats 4000000
namespace Go.Proofs.Ytnnjpiepoeknnaa.PE
open Go.RowKit

theorem short_of {rs : List Row} (h : ∀ r ∈ rs, GR r.vs) : Short rs := fun r hr => ⟨Nat.lt_of_le_of_lt (h r hr).1 (by decide), fun v hv => Nat.lt_of_le_of_lt ((h r hr).2 v hv) (by decide)⟩
theorem foldl_short {i : Int} : ∀ {rs : List Row} {k : Kn}, Short rs → k.short → (rs.foldl (fun k r => knBoth k (knOf (colAt i r))) k).short
  | [], _, _, hk => hk
  | r :: rs, k, h, hk => by
    refine foldl_short (rs := rs) (fun x hx => h x (List.mem_cons_of_mem _ hx)) (knBoth_short hk (knOf_short ?_))
    unfold colAt
    rw [List.getD_eq_getElem?_getD]
    cases hg : r.vs[i.toNat]? with
    | none => show (⟨#[]⟩ : ByteArray).size < _; rw [empty_size]; omega
    | some v => exact (h r List.mem_cons_self).2 v (List.mem_of_getElem? hg)
theorem knCol_short {cs : List Col} {rs : List Row} {i : Int} (h : Short rs) : (knCol cs rs i).short := by
  unfold knCol
  split
  · split
    · exact Kn.zero_short
    · split
      · exact foldl_short h Kn.zero_short
      · exact Kn.zero_short
  · exact Kn.zero_short

def AgPost (k : Kn) (v : Val) : Prop := k.short ∧ v.s.size ≤ 20
-- find75
theorem ex_against {d : Nat} {hp t : Heap} {c : Bool} {bs : List UInt8} {p : Int} {X : Option (V × Heap)} (hx : callS (runD tab noExt (d + 7)) (hp ++ .box [.sl c 1 (cellsOfBytes bs), .int .i64 (p)] :: t) 75 [.ptr hp.length 0 0 0] false = X)
    (hp0 : 0 ≤ p) (hq : p ≤ 1099200000000) (hb : bs.length ≤ 2000) (hhp : plainH hp = true) (ht : plainH t = true) :
    ∃ (k : Kn) (kd : Int) (v : Val) (p' : Int), X = some (.tup [.agg k.cells, .int .i64 kd, Val.enc v], hp ++ .box [.sl c 1 (cellsOfBytes bs), .int .i64 (p')] :: t) ∧ p ≤ p' ∧ p' ≤ p + 4000 ∧ AgPost k v := by
  subst hx
  have hh : ∀ n, t.all (hiB n) = true := fun n => plainH_hi ht n
  have hhq : ∀ n, hp.all (hiB n) = true := fun n => plainH_hi hhp n
  rw [callS_eq, runD_eq find75 _ _ _ (by simp)]
  simp -implicitDefEqProofs (disch := omega) only [go_sem, Nat.reduceBEq, Nat.reduceAdd, Nat.reduceSub, Nat.reduceMul, Nat.reduceLeDiff, Nat.reduceEqDiff, Nat.reduceLT, Int.reduceNeg, Int.reduceAdd, Int.reduceSub, Int.reduceMul, Int.reduceLE, Int.reduceLT, Int.reduceEq, Int.reduceToNat, reduceCtorEq, hh, hhq, List.all_append]
  generalize hx : callS (runD tab noExt _) _ 86 _ false = X
  obtain ⟨cs, rs, i, p1, rfl, g1, g2, g3, g4, g5, g6, g7⟩ := ex_bounded hx (by omega) (by omega) hb hhp (by simp only [ht, plainH_nil, plainH_cons, plainH_append, plainB, List.all_cons, List.all_nil, Bool.and_self, Bool.and_true])
  clear hx
  obtain ⟨g7, g8⟩ := g7 (by omega)
  have hsh := short_of g6
  have hks := knCol_short (cs := cs) (i := i) hsh
  have hat := at_getD (⟨0, false⟩ : Col) (show i.toNat < cs.length by omega)
  have fin : ∀ (k : Kn) (kd : Int) (v : Val) (q : Int), p ≤ q → q ≤ p + 4000 → k.short → GV v → ∃ (k' : Kn) (kd' : Int) (v' : Val) (p' : Int), (some (.tup [.agg [.int .i64 k.many, .int .i64 k.sum, .int .i64 k.least.kind, .int .i64 k.least.n, .str k.least.s, .int .i64 k.most.kind, .int .i64 k.most.n, .str k.most.s], .int .i64 kd, .agg [.int .i64 v.kind, .int .i64 v.n, .str v.s]], hp ++ .box [.sl c 1 (cellsOfBytes bs), .int .i64 (q)] :: t) : Option (V × Heap)) = some (.tup [.agg k'.cells, .int .i64 kd', Val.enc v'], hp ++ .box [.sl c 1 (cellsOfBytes bs), .int .i64 (p')] :: t) ∧ p ≤ p' ∧ p' ≤ p + 4000 ∧ AgPost k' v' :=
    fun k kd v q h5 h6 h7 h8 => ⟨k, kd, v, q, rfl, h5, h6, h7, h8⟩
  simp -implicitDefEqProofs (disch := first | omega | assumption) only [go_sem, Nat.reduceBEq, Nat.reduceAdd, Nat.reduceSub, Nat.reduceMul, Nat.reduceLeDiff, Nat.reduceEqDiff, Nat.reduceLT, Int.reduceNeg, Int.reduceAdd, Int.reduceSub, Int.reduceMul, Int.reduceLE, Int.reduceLT, Int.reduceEq, Int.reduceToNat, reduceCtorEq, IntWalk.i64_in, hh, hhq, List.all_append, run_knCol, Kn.cells, hat, g7, Col.cells]
  repeat' (first | ((conv in (callS _ _ 104 _ false) => skip); generalize hx : callS (runD tab noExt _) (_ ++ _ :: _) 104 _ false = X; obtain ⟨m, rfl, hn1, hn2⟩ := ex_pick hx (by omega) (by omega) hb hhp (by simp only [ht, plainH_nil, plainH_cons, plainH_append, plainB, List.all_cons, List.all_nil, Bool.and_self, Bool.and_true]) ; skip;  simp -implicitDefEqProofs (disch := omega) only [go_sem, Nat.reduceBEq, Nat.reduceAdd, Nat.reduceSub, Nat.reduceMul, Nat.reduceLeDiff, Nat.reduceEqDiff, Nat.reduceLT, Int.reduceNeg, Int.reduceAdd, Int.reduceSub, Int.reduceMul, Int.reduceLE, Int.reduceLT, Int.reduceEq, Int.reduceToNat, reduceCtorEq, IntWalk.i64_in, hh, hhq, List.all_append, Val.enc, Kn.cells, evC_draw, evD75x0, E75x0, Int.tdiv_eq_ediv_of_nonneg, *]) | ((conv in (callS _ _ 105 _ false) => skip); generalize hx : callS (runD tab noExt _) (_ ++ _ :: _) 105 _ false = X; obtain ⟨v, p', rfl, hv1, hv2, hv3⟩ := ex_like hx (by omega) (by omega) hb hhp (by simp only [ht, plainH_nil, plainH_cons, plainH_append, plainB, List.all_cons, List.all_nil, Bool.and_self, Bool.and_true]) ; skip;  simp -implicitDefEqProofs (disch := omega) only [go_sem, Nat.reduceBEq, Nat.reduceAdd, Nat.reduceSub, Nat.reduceMul, Nat.reduceLeDiff, Nat.reduceEqDiff, Nat.reduceLT, Int.reduceNeg, Int.reduceAdd, Int.reduceSub, Int.reduceMul, Int.reduceLE, Int.reduceLT, Int.reduceEq, Int.reduceToNat, reduceCtorEq, IntWalk.i64_in, hh, hhq, List.all_append, Val.enc, Kn.cells, evC_draw, evD75x0, E75x0, Int.tdiv_eq_ediv_of_nonneg, *]) | ((conv in (callS _ _ 145 _ false) => skip); generalize hx : callS (runD tab noExt _) (_ ++ _ :: _) 145 _ false = X; obtain ⟨v, p', rfl, hv1, hv2, hv3⟩ := ex_value hx (by omega) (by omega) hb hhp (by simp only [ht, plainH_nil, plainH_cons, plainH_append, plainB, List.all_cons, List.all_nil, Bool.and_self, Bool.and_true]) ; skip;  simp -implicitDefEqProofs (disch := omega) only [go_sem, Nat.reduceBEq, Nat.reduceAdd, Nat.reduceSub, Nat.reduceMul, Nat.reduceLeDiff, Nat.reduceEqDiff, Nat.reduceLT, Int.reduceNeg, Int.reduceAdd, Int.reduceSub, Int.reduceMul, Int.reduceLE, Int.reduceLT, Int.reduceEq, Int.reduceToNat, reduceCtorEq, IntWalk.i64_in, hh, hhq, List.all_append, Val.enc, Kn.cells, evC_draw, evD75x0, E75x0, Int.tdiv_eq_ediv_of_nonneg, *]) | ((conv in (callS _ _ 146 _ false) => skip); generalize hx : callS (runD tab noExt _) (_ ++ _ :: _) 146 _ false = X; obtain ⟨k, p', rfl, hk1, hk2, hk3⟩ := ex_known hx (by omega) (by omega) hb hhp (by simp only [ht, plainH_nil, plainH_cons, plainH_append, plainB, List.all_cons, List.all_nil, Bool.and_self, Bool.and_true]) ; skip;  simp -implicitDefEqProofs (disch := omega) only [go_sem, Nat.reduceBEq, Nat.reduceAdd, Nat.reduceSub, Nat.reduceMul, Nat.reduceLeDiff, Nat.reduceEqDiff, Nat.reduceLT, Int.reduceNeg, Int.reduceAdd, Int.reduceSub, Int.reduceMul, Int.reduceLE, Int.reduceLT, Int.reduceEq, Int.reduceToNat, reduceCtorEq, IntWalk.i64_in, hh, hhq, List.all_append, Val.enc, Kn.cells, evC_draw, evD75x0, E75x0, Int.tdiv_eq_ediv_of_nonneg, *]) | ((first | rw [GuardI_ndec] | rw [CondC_ndec] | rw [GuardQ_ndec] | rw [GuardV_ndec] | rw [GuardI_dec] | rw [CondC_dec] | rw [GuardQ_dec] | rw [GuardV_dec] | rw [GuardI_nby] | rw [CondC_nby] | rw [GuardQ_nby] | rw [GuardV_nby] | rw [GuardQ_by] | rw [GuardI_by] | rw [GuardV_by] | rw [CondC_by]) <;> split <;> simp -implicitDefEqProofs (disch := omega) only [go_sem, Nat.reduceBEq, Nat.reduceAdd, Nat.reduceSub, Nat.reduceMul, Nat.reduceLeDiff, Nat.reduceEqDiff, Nat.reduceLT, Int.reduceNeg, Int.reduceAdd, Int.reduceSub, Int.reduceMul, Int.reduceLE, Int.reduceLT, Int.reduceEq, Int.reduceToNat, reduceCtorEq, IntWalk.i64_in, hh, hhq, List.all_append, Val.enc, Kn.cells, evC_draw, evD75x0, E75x0, Int.tdiv_eq_ediv_of_nonneg, *]))
  · exact fin _ _ _ _ (by omega) (by omega) hk3 (by assumption)
  · exact fin _ _ _ _ (by omega) (by omega) hks (by assumption)
  · exact fin _ _ _ _ (by omega) (by omega) hk3 (by assumption)
  · exact fin _ _ _ _ (by omega) (by omega) hks (by assumption)
end Go.Proofs.Ytnnjpiepoeknnaa.PE
/- The reader is opened; a fixed answer. -/
set_option linter.unusedSimpArgs false
set_option linter.unusedVariables false
set_option maxHeartbeats 4000000
namespace Go.Proofs.Ytnnjpiepoeknnaa.PE
open Go.RowKit

theorem ofBytes_take (l : List UInt8) (k : Nat) : (cellsOfBytes l).take k = cellsOfBytes (l.take k) := by simp [cellsOfBytes, List.map_take]
-- find76
theorem ex_open {d : Nat} {h : Heap} {c : Bool} {l : List UInt8} {X : Option (V × Heap)} (hx : callS (runD tab noExt (d + 1)) h 76 [.sl c 1 (cellsOfBytes l)] true = X) (hh : plainH h = true) :
    ∃ (c' : Bool) (bs : List UInt8), X = some (.ptr h.length 0 0 0, h ++ [.box [.sl c' 1 (cellsOfBytes bs), .int .i64 0]]) ∧ bs.length ≤ 2000 := by
  subst hx
  have hh : ∀ n, h.all (hiB n) = true := fun n => plainH_hi hh n
  rw [callS_eq, runD_eq find76 _ _ _ (by simp)]
  by_cases h1 : (2000 : Int) < l.length
  · have h2 : (2000 : Int) ≤ l.length := by omega
    have h3 : ((2000 : Int) = l.length) = False := eq_false (by omega)
    simp -implicitDefEqProofs (disch := omega) only [go_sem, Nat.reduceBEq, Nat.reduceAdd, Nat.reduceSub, Nat.reduceMul, Nat.reduceLeDiff, Nat.reduceEqDiff, Nat.reduceLT, Int.reduceNeg, Int.reduceAdd, Int.reduceSub, Int.reduceMul, Int.reduceLE, Int.reduceLT, Int.reduceEq, Int.reduceToNat, reduceCtorEq, hh, List.all_append, ofBytes_len, h1, h2, h3, Option.getD_some, Option.isSome_none, Option.isSome_some, Option.isNone_some, List.drop_zero, ofBytes_take, Nat.sub_zero, Int.toNat_zero, Nat.le_refl, Int.le_refl]
    exact ⟨_, _, rfl, by simp; omega⟩
  · simp -implicitDefEqProofs (disch := omega) only [go_sem, Nat.reduceBEq, Nat.reduceAdd, Nat.reduceSub, Nat.reduceMul, Nat.reduceLeDiff, Nat.reduceEqDiff, Nat.reduceLT, Int.reduceNeg, Int.reduceAdd, Int.reduceSub, Int.reduceMul, Int.reduceLE, Int.reduceLT, Int.reduceEq, Int.reduceToNat, reduceCtorEq, hh, List.all_append, ofBytes_len, h1, Nat.le_refl]
    exact ⟨_, _, rfl, by omega⟩

-- find21
theorem run_alive (d : Nat) : retP (runD tab noExt (d + 5)) 21 [] = some [.bool true] := by
  rw [retP, runD_eq find21 _ _ _ (by simp)]
  simp -implicitDefEqProofs (disch := omega) only [go_sem, Nat.reduceBEq, Nat.reduceAdd, Nat.reduceSub, Nat.reduceMul, Nat.reduceLeDiff, Nat.reduceEqDiff, Nat.reduceLT, Int.reduceNeg, Int.reduceAdd, Int.reduceSub, Int.reduceMul, Int.reduceLE, Int.reduceLT, Int.reduceEq, Int.reduceToNat, reduceCtorEq, run_ValueOk]
  have h1 : Val.ok ⟨1, 3, ⟨#[]⟩⟩ = true := rfl
  have h2 : Val.ok ⟨9, 0, ⟨#[]⟩⟩ = false := rfl
  simp -implicitDefEqProofs only [go_sem, Nat.reduceBEq, Nat.reduceAdd, Nat.reduceSub, Nat.reduceMul, Nat.reduceLeDiff, Nat.reduceEqDiff, Nat.reduceLT, Int.reduceNeg, Int.reduceAdd, Int.reduceSub, Int.reduceMul, Int.reduceLE, Int.reduceLT, Int.reduceEq, Int.reduceToNat, reduceCtorEq, h1, h2, run_ValueOk]

end Go.Proofs.Ytnnjpiepoeknnaa.PE
/- What is known of a column: the program's; the law. -/
set_option linter.unusedSimpArgs false
set_option linter.unusedVariables false
set_option maxHeartbeats 4000000
namespace Go.Proofs.Ytnnjpiepoeknnaa.PE
open Go.RowKit

theorem run_knOfI (d : Nat) (ak an : Int) (aq : ByteArray) : retP (runD tab noExt (d + 4)) 159 [.agg [.int .i64 ak, .int .i64 an, .str aq]] = some [.agg (knOf (⟨ak, an, aq⟩ : Val)).cells] := by
  rw [retP, runD_eq find159 _ _ _ (by simp)]
  simp -implicitDefEqProofs (disch := omega) only [go_sem, Nat.reduceBEq, Nat.reduceAdd, Nat.reduceSub, Nat.reduceMul, Nat.reduceLeDiff, Nat.reduceEqDiff, Nat.reduceLT, Int.reduceNeg, Int.reduceAdd, Int.reduceSub, Int.reduceMul, Int.reduceLE, Int.reduceLT, Int.reduceEq, Int.reduceToNat, reduceCtorEq, run_ok, IntWalk.i64_in]
  repeat' ((first | rw [GuardI_ndec] | rw [CondC_ndec] | rw [GuardQ_ndec] | rw [GuardI_dec] | rw [CondC_dec] | rw [GuardQ_dec] | rw [GuardI_nby] | rw [CondC_nby] | rw [GuardQ_nby] | rw [GuardQ_by] | rw [GuardI_by] | rw [CondC_by]) <;> split <;> simp -implicitDefEqProofs (disch := omega) only [go_sem, Nat.reduceBEq, Nat.reduceAdd, Nat.reduceSub, Nat.reduceMul, Nat.reduceLeDiff, Nat.reduceEqDiff, Nat.reduceLT, Int.reduceNeg, Int.reduceAdd, Int.reduceSub, Int.reduceMul, Int.reduceLE, Int.reduceLT, Int.reduceEq, Int.reduceToNat, reduceCtorEq, run_ok, IntWalk.i64_in, *])
  all_goals (simp_all [knOf, Kn.cells, Kn.zero, Val.zero])
-- find78
theorem clo_order (d : Nat) (h : Heap) (hp : plainH h = true) (ak an : Int) (aq : ByteArray) (bk bn : Int) (bq : ByteArray) : callS (runD tab noExt (d + 3)) h 78 [.agg [.int .i64 ak, .int .i64 an, .str aq], .agg [.int .i64 bk, .int .i64 bn, .str bq]] false = some (.int .i64 (Val.cmp (⟨ak, an, aq⟩ : Val) (⟨bk, bn, bq⟩ : Val)), h) := by
  have hh : ∀ n, h.all (hiB n) = true := fun n => plainH_hi hp n
  rw [callS_eq, runD_eq find78 _ _ _ (by simp)]
  simp -implicitDefEqProofs (disch := omega) only [go_sem, Nat.reduceBEq, Nat.reduceAdd, Nat.reduceSub, Nat.reduceMul, Nat.reduceLeDiff, Nat.reduceEqDiff, Nat.reduceLT, Int.reduceNeg, Int.reduceAdd, Int.reduceSub, Int.reduceMul, Int.reduceLE, Int.reduceLT, Int.reduceEq, Int.reduceToNat, reduceCtorEq, hh, List.all_append, run_cmpI, run_cmpS, run_Or3, evC_draw, evD78x0, E78x0, elemsOf, elemOf, refsV, refs, refC, List.flatMap_cons, List.flatMap_nil, frzs, List.append_nil, Val.cmp]
-- find96
theorem run_min (d : Nat) (h : Heap) (hp : plainH h = true) (ak an : Int) (aq : ByteArray) (bk bn : Int) (bq : ByteArray) : callS (runD tab noExt (d + 4)) h 96 [.sl true 3 [[.int .i64 ak, .int .i64 an, .str aq], [.int .i64 bk, .int .i64 bn, .str bq]], .clo 78 []] false = some (.agg (minV (⟨ak, an, aq⟩ : Val) (⟨bk, bn, bq⟩ : Val)).cells, h) := by
  have hh : ∀ n, h.all (hiB n) = true := fun n => plainH_hi hp n
  have hc := clo_order d (h ++ [.box [.int .i64 0, .int .i64 0, .str ⟨#[]⟩], .box [.int .i64 ak, .int .i64 an, .str aq]]) (by simp [plainH_append, plainH_cons, plainH_nil, hp, plainB, hi0]) bk bn bq ak an aq
  rw [callS_eq, runD_eq find96 _ _ _ (by simp)]
  by_cases hlt : Val.cmp (⟨bk, bn, bq⟩ : Val) (⟨ak, an, aq⟩ : Val) < 0
  · simp -implicitDefEqProofs (disch := omega) only [go_sem, Nat.reduceBEq, Nat.reduceAdd, Nat.reduceSub, Nat.reduceMul, Nat.reduceLeDiff, Nat.reduceEqDiff, Nat.reduceLT, Int.reduceNeg, Int.reduceAdd, Int.reduceSub, Int.reduceMul, Int.reduceLE, Int.reduceLT, Int.reduceEq, Int.reduceToNat, reduceCtorEq, hh, List.all_append, LoopS_eq, evL96x0, B96x0, evC_draw, evD96x0, E96x0, hc, hlt, Int.toNat_zero, Int.toNat_one, IntWalk.i64_in]
    simp [minV, hlt, Val.cells]
  · simp -implicitDefEqProofs (disch := omega) only [go_sem, Nat.reduceBEq, Nat.reduceAdd, Nat.reduceSub, Nat.reduceMul, Nat.reduceLeDiff, Nat.reduceEqDiff, Nat.reduceLT, Int.reduceNeg, Int.reduceAdd, Int.reduceSub, Int.reduceMul, Int.reduceLE, Int.reduceLT, Int.reduceEq, Int.reduceToNat, reduceCtorEq, hh, List.all_append, LoopS_eq, evL96x0, B96x0, evC_draw, evD96x0, E96x0, hc, hlt, Int.toNat_zero, Int.toNat_one, IntWalk.i64_in]
    simp [minV, hlt, Val.cells]
-- find97
theorem run_max (d : Nat) (h : Heap) (hp : plainH h = true) (ak an : Int) (aq : ByteArray) (bk bn : Int) (bq : ByteArray) : callS (runD tab noExt (d + 4)) h 97 [.sl true 3 [[.int .i64 ak, .int .i64 an, .str aq], [.int .i64 bk, .int .i64 bn, .str bq]], .clo 78 []] false = some (.agg (maxV (⟨ak, an, aq⟩ : Val) (⟨bk, bn, bq⟩ : Val)).cells, h) := by
  have hh : ∀ n, h.all (hiB n) = true := fun n => plainH_hi hp n
  have hc := clo_order d (h ++ [.box [.int .i64 0, .int .i64 0, .str ⟨#[]⟩], .box [.int .i64 ak, .int .i64 an, .str aq]]) (by simp [plainH_append, plainH_cons, plainH_nil, hp, plainB, hi0]) bk bn bq ak an aq
  rw [callS_eq, runD_eq find97 _ _ _ (by simp)]
  by_cases hlt : 0 < Val.cmp (⟨bk, bn, bq⟩ : Val) (⟨ak, an, aq⟩ : Val)
  · simp -implicitDefEqProofs (disch := omega) only [go_sem, Nat.reduceBEq, Nat.reduceAdd, Nat.reduceSub, Nat.reduceMul, Nat.reduceLeDiff, Nat.reduceEqDiff, Nat.reduceLT, Int.reduceNeg, Int.reduceAdd, Int.reduceSub, Int.reduceMul, Int.reduceLE, Int.reduceLT, Int.reduceEq, Int.reduceToNat, reduceCtorEq, hh, List.all_append, LoopS_eq, evL97x0, B97x0, evC_draw, evD97x0, E97x0, hc, hlt, Int.toNat_zero, Int.toNat_one, IntWalk.i64_in]
    simp [maxV, hlt, Val.cells]
  · simp -implicitDefEqProofs (disch := omega) only [go_sem, Nat.reduceBEq, Nat.reduceAdd, Nat.reduceSub, Nat.reduceMul, Nat.reduceLeDiff, Nat.reduceEqDiff, Nat.reduceLT, Int.reduceNeg, Int.reduceAdd, Int.reduceSub, Int.reduceMul, Int.reduceLE, Int.reduceLT, Int.reduceEq, Int.reduceToNat, reduceCtorEq, hh, List.all_append, LoopS_eq, evL97x0, B97x0, evC_draw, evD97x0, E97x0, hc, hlt, Int.toNat_zero, Int.toNat_one, IntWalk.i64_in]
    simp [maxV, hlt, Val.cells]
theorem kbI0 (d : Nat) (am au : Int) (alk aln : Int) (alq : ByteArray) (agk agn : Int) (agq : ByteArray) (bm bu : Int) (blk bln : Int) (blq : ByteArray) (bgk bgn : Int) (bgq : ByteArray) (hka : ¬ Kn.ok (⟨am, au, (⟨alk, aln, alq⟩ : Val), (⟨agk, agn, agq⟩ : Val)⟩ : Kn) = true) : retP (runD tab noExt (d + 5)) 31 [.agg [.int .i64 am, .int .i64 au, .int .i64 alk, .int .i64 aln, .str alq, .int .i64 agk, .int .i64 agn, .str agq], .agg [.int .i64 bm, .int .i64 bu, .int .i64 blk, .int .i64 bln, .str blq, .int .i64 bgk, .int .i64 bgn, .str bgq]] = some [.agg (knBoth (⟨am, au, (⟨alk, aln, alq⟩ : Val), (⟨agk, agn, agq⟩ : Val)⟩ : Kn) (⟨bm, bu, (⟨blk, bln, blq⟩ : Val), (⟨bgk, bgn, bgq⟩ : Val)⟩ : Kn)).cells] := by
  rw [retP, runD_eq find31 _ _ _ (by simp)]
  simp -implicitDefEqProofs (disch := omega) only [go_sem, Nat.reduceBEq, Nat.reduceAdd, Nat.reduceSub, Nat.reduceMul, Nat.reduceLeDiff, Nat.reduceEqDiff, Nat.reduceLT, Int.reduceNeg, Int.reduceAdd, Int.reduceSub, Int.reduceMul, Int.reduceLE, Int.reduceLT, Int.reduceEq, Int.reduceToNat, reduceCtorEq, run_KnownOk, IntWalk.i64_in, hka]
  simp only [knBoth, hka, if_true, if_false, Bool.false_eq_true, Kn.cells, Kn.zero, Val.zero]
theorem kbI1 (d : Nat) (am au : Int) (alk aln : Int) (alq : ByteArray) (agk agn : Int) (agq : ByteArray) (bm bu : Int) (blk bln : Int) (blq : ByteArray) (bgk bgn : Int) (bgq : ByteArray) (hka : Kn.ok (⟨am, au, (⟨alk, aln, alq⟩ : Val), (⟨agk, agn, agq⟩ : Val)⟩ : Kn) = true)(hkb : ¬ Kn.ok (⟨bm, bu, (⟨blk, bln, blq⟩ : Val), (⟨bgk, bgn, bgq⟩ : Val)⟩ : Kn) = true) : retP (runD tab noExt (d + 5)) 31 [.agg [.int .i64 am, .int .i64 au, .int .i64 alk, .int .i64 aln, .str alq, .int .i64 agk, .int .i64 agn, .str agq], .agg [.int .i64 bm, .int .i64 bu, .int .i64 blk, .int .i64 bln, .str blq, .int .i64 bgk, .int .i64 bgn, .str bgq]] = some [.agg (knBoth (⟨am, au, (⟨alk, aln, alq⟩ : Val), (⟨agk, agn, agq⟩ : Val)⟩ : Kn) (⟨bm, bu, (⟨blk, bln, blq⟩ : Val), (⟨bgk, bgn, bgq⟩ : Val)⟩ : Kn)).cells] := by
  rw [retP, runD_eq find31 _ _ _ (by simp)]
  simp -implicitDefEqProofs (disch := omega) only [go_sem, Nat.reduceBEq, Nat.reduceAdd, Nat.reduceSub, Nat.reduceMul, Nat.reduceLeDiff, Nat.reduceEqDiff, Nat.reduceLT, Int.reduceNeg, Int.reduceAdd, Int.reduceSub, Int.reduceMul, Int.reduceLE, Int.reduceLT, Int.reduceEq, Int.reduceToNat, reduceCtorEq, run_KnownOk, IntWalk.i64_in, hka, hkb]
  simp only [knBoth, hka, hkb, if_true, if_false, Bool.false_eq_true, Kn.cells, Kn.zero, Val.zero]
theorem kbI2 (d : Nat) (am au : Int) (alk aln : Int) (alq : ByteArray) (agk agn : Int) (agq : ByteArray) (bm bu : Int) (blk bln : Int) (blq : ByteArray) (bgk bgn : Int) (bgq : ByteArray) (hka : Kn.ok (⟨am, au, (⟨alk, aln, alq⟩ : Val), (⟨agk, agn, agq⟩ : Val)⟩ : Kn) = true)(hkb : Kn.ok (⟨bm, bu, (⟨blk, bln, blq⟩ : Val), (⟨bgk, bgn, bgq⟩ : Val)⟩ : Kn) = true) (e1 : (am = 0) = True) : retP (runD tab noExt (d + 5)) 31 [.agg [.int .i64 am, .int .i64 au, .int .i64 alk, .int .i64 aln, .str alq, .int .i64 agk, .int .i64 agn, .str agq], .agg [.int .i64 bm, .int .i64 bu, .int .i64 blk, .int .i64 bln, .str blq, .int .i64 bgk, .int .i64 bgn, .str bgq]] = some [.agg (knBoth (⟨am, au, (⟨alk, aln, alq⟩ : Val), (⟨agk, agn, agq⟩ : Val)⟩ : Kn) (⟨bm, bu, (⟨blk, bln, blq⟩ : Val), (⟨bgk, bgn, bgq⟩ : Val)⟩ : Kn)).cells] := by
  rw [retP, runD_eq find31 _ _ _ (by simp)]
  simp -implicitDefEqProofs (disch := omega) only [go_sem, Nat.reduceBEq, Nat.reduceAdd, Nat.reduceSub, Nat.reduceMul, Nat.reduceLeDiff, Nat.reduceEqDiff, Nat.reduceLT, Int.reduceNeg, Int.reduceAdd, Int.reduceSub, Int.reduceMul, Int.reduceLE, Int.reduceLT, Int.reduceEq, Int.reduceToNat, reduceCtorEq, run_KnownOk, IntWalk.i64_in, hka, hkb, e1]
  simp only [knBoth, hka, hkb, e1, if_true, Kn.cells]
theorem kbI3 (d : Nat) (am au : Int) (alk aln : Int) (alq : ByteArray) (agk agn : Int) (agq : ByteArray) (bm bu : Int) (blk bln : Int) (blq : ByteArray) (bgk bgn : Int) (bgq : ByteArray) (hka : Kn.ok (⟨am, au, (⟨alk, aln, alq⟩ : Val), (⟨agk, agn, agq⟩ : Val)⟩ : Kn) = true)(hkb : Kn.ok (⟨bm, bu, (⟨blk, bln, blq⟩ : Val), (⟨bgk, bgn, bgq⟩ : Val)⟩ : Kn) = true) (e1 : (am = 0) = False) (e2 : (bm = 0) = True) : retP (runD tab noExt (d + 5)) 31 [.agg [.int .i64 am, .int .i64 au, .int .i64 alk, .int .i64 aln, .str alq, .int .i64 agk, .int .i64 agn, .str agq], .agg [.int .i64 bm, .int .i64 bu, .int .i64 blk, .int .i64 bln, .str blq, .int .i64 bgk, .int .i64 bgn, .str bgq]] = some [.agg (knBoth (⟨am, au, (⟨alk, aln, alq⟩ : Val), (⟨agk, agn, agq⟩ : Val)⟩ : Kn) (⟨bm, bu, (⟨blk, bln, blq⟩ : Val), (⟨bgk, bgn, bgq⟩ : Val)⟩ : Kn)).cells] := by
  rw [retP, runD_eq find31 _ _ _ (by simp)]
  simp -implicitDefEqProofs (disch := omega) only [go_sem, Nat.reduceBEq, Nat.reduceAdd, Nat.reduceSub, Nat.reduceMul, Nat.reduceLeDiff, Nat.reduceEqDiff, Nat.reduceLT, Int.reduceNeg, Int.reduceAdd, Int.reduceSub, Int.reduceMul, Int.reduceLE, Int.reduceLT, Int.reduceEq, Int.reduceToNat, reduceCtorEq, run_KnownOk, IntWalk.i64_in, hka, hkb, e1, e2]
  simp only [knBoth, hka, hkb, e1, e2, if_true, if_false, Kn.cells]
theorem kbI4 (d : Nat) (am au : Int) (alk aln : Int) (alq : ByteArray) (agk agn : Int) (agq : ByteArray) (bm bu : Int) (blk bln : Int) (blq : ByteArray) (bgk bgn : Int) (bgq : ByteArray) (hka : Kn.ok (⟨am, au, (⟨alk, aln, alq⟩ : Val), (⟨agk, agn, agq⟩ : Val)⟩ : Kn) = true)(hkb : Kn.ok (⟨bm, bu, (⟨blk, bln, blq⟩ : Val), (⟨bgk, bgn, bgq⟩ : Val)⟩ : Kn) = true) (ha : 0 ≤ am ∧ am ≤ 100 ∧ -999900 ≤ au ∧ au ≤ 999900) (hb : 0 ≤ bm ∧ bm ≤ 100 ∧ -999900 ≤ bu ∧ bu ≤ 999900) (e1 : (am = 0) = False) (e2 : (bm = 0) = False) (e3 : (alk = blk) = False) : retP (runD tab noExt (d + 5)) 31 [.agg [.int .i64 am, .int .i64 au, .int .i64 alk, .int .i64 aln, .str alq, .int .i64 agk, .int .i64 agn, .str agq], .agg [.int .i64 bm, .int .i64 bu, .int .i64 blk, .int .i64 bln, .str blq, .int .i64 bgk, .int .i64 bgn, .str bgq]] = some [.agg (knBoth (⟨am, au, (⟨alk, aln, alq⟩ : Val), (⟨agk, agn, agq⟩ : Val)⟩ : Kn) (⟨bm, bu, (⟨blk, bln, blq⟩ : Val), (⟨bgk, bgn, bgq⟩ : Val)⟩ : Kn)).cells] := by
  rw [retP, runD_eq find31 _ _ _ (by simp)]
  simp -implicitDefEqProofs (disch := omega) only [go_sem, Nat.reduceBEq, Nat.reduceAdd, Nat.reduceSub, Nat.reduceMul, Nat.reduceLeDiff, Nat.reduceEqDiff, Nat.reduceLT, Int.reduceNeg, Int.reduceAdd, Int.reduceSub, Int.reduceMul, Int.reduceLE, Int.reduceLT, Int.reduceEq, Int.reduceToNat, reduceCtorEq, run_KnownOk, IntWalk.i64_in, hka, hkb, e1, e2, e3]
  simp only [knBoth, hka, hkb, e1, e2, e3, if_true, if_false, Kn.cells, Kn.zero, Val.zero]
theorem kbI5 (d : Nat) (am au : Int) (alk aln : Int) (alq : ByteArray) (agk agn : Int) (agq : ByteArray) (bm bu : Int) (blk bln : Int) (blq : ByteArray) (bgk bgn : Int) (bgq : ByteArray) (hka : Kn.ok (⟨am, au, (⟨alk, aln, alq⟩ : Val), (⟨agk, agn, agq⟩ : Val)⟩ : Kn) = true)(hkb : Kn.ok (⟨bm, bu, (⟨blk, bln, blq⟩ : Val), (⟨bgk, bgn, bgq⟩ : Val)⟩ : Kn) = true) (ha : 0 ≤ am ∧ am ≤ 100 ∧ -999900 ≤ au ∧ au ≤ 999900) (hb : 0 ≤ bm ∧ bm ≤ 100 ∧ -999900 ≤ bu ∧ bu ≤ 999900) (e1 : (am = 0) = False) (e2 : (bm = 0) = False) (e3 : (alk = blk) = True) (h4 : 100 < am + bm) : retP (runD tab noExt (d + 5)) 31 [.agg [.int .i64 am, .int .i64 au, .int .i64 alk, .int .i64 aln, .str alq, .int .i64 agk, .int .i64 agn, .str agq], .agg [.int .i64 bm, .int .i64 bu, .int .i64 blk, .int .i64 bln, .str blq, .int .i64 bgk, .int .i64 bgn, .str bgq]] = some [.agg (knBoth (⟨am, au, (⟨alk, aln, alq⟩ : Val), (⟨agk, agn, agq⟩ : Val)⟩ : Kn) (⟨bm, bu, (⟨blk, bln, blq⟩ : Val), (⟨bgk, bgn, bgq⟩ : Val)⟩ : Kn)).cells] := by
  rw [retP, runD_eq find31 _ _ _ (by simp)]
  simp -implicitDefEqProofs (disch := omega) only [go_sem, Nat.reduceBEq, Nat.reduceAdd, Nat.reduceSub, Nat.reduceMul, Nat.reduceLeDiff, Nat.reduceEqDiff, Nat.reduceLT, Int.reduceNeg, Int.reduceAdd, Int.reduceSub, Int.reduceMul, Int.reduceLE, Int.reduceLT, Int.reduceEq, Int.reduceToNat, reduceCtorEq, run_KnownOk, IntWalk.i64_in, hka, hkb, e1, e2, e3, h4]
  simp only [knBoth, hka, hkb, e1, e2, e3, h4, if_true, if_false, Kn.cells, Kn.zero, Val.zero]
theorem kbI6 (d : Nat) (am au : Int) (alk aln : Int) (alq : ByteArray) (agk agn : Int) (agq : ByteArray) (bm bu : Int) (blk bln : Int) (blq : ByteArray) (bgk bgn : Int) (bgq : ByteArray) (hka : Kn.ok (⟨am, au, (⟨alk, aln, alq⟩ : Val), (⟨agk, agn, agq⟩ : Val)⟩ : Kn) = true)(hkb : Kn.ok (⟨bm, bu, (⟨blk, bln, blq⟩ : Val), (⟨bgk, bgn, bgq⟩ : Val)⟩ : Kn) = true) (ha : 0 ≤ am ∧ am ≤ 100 ∧ -999900 ≤ au ∧ au ≤ 999900) (hb : 0 ≤ bm ∧ bm ≤ 100 ∧ -999900 ≤ bu ∧ bu ≤ 999900) (h1 : ¬ am = 0) (h2 : ¬ bm = 0) (h3 : alk = blk) (h4 : ¬ 100 < am + bm) : retP (runD tab noExt (d + 5)) 31 [.agg [.int .i64 am, .int .i64 au, .int .i64 alk, .int .i64 aln, .str alq, .int .i64 agk, .int .i64 agn, .str agq], .agg [.int .i64 bm, .int .i64 bu, .int .i64 blk, .int .i64 bln, .str blq, .int .i64 bgk, .int .i64 bgn, .str bgq]] = some [.agg (knBoth (⟨am, au, (⟨alk, aln, alq⟩ : Val), (⟨agk, agn, agq⟩ : Val)⟩ : Kn) (⟨bm, bu, (⟨blk, bln, blq⟩ : Val), (⟨bgk, bgn, bgq⟩ : Val)⟩ : Kn)).cells] := by
  rw [retP, runD_eq find31 _ _ _ (by simp)]
  have e1 : (am = 0) = False := eq_false h1
  have e2 : (bm = 0) = False := eq_false h2
  have e3 : (alk = blk) = True := eq_true h3
  have e := knBoth_form (Kn.full_of hka h1) (Kn.full_of hkb h2) h3 (by dsimp only; omega)
  have hm := run_min d [.box [.int .i64 am, .int .i64 au, .int .i64 alk, .int .i64 aln, .str alq, .int .i64 agk, .int .i64 agn, .str agq], .box [.int .i64 bm, .int .i64 bu, .int .i64 blk, .int .i64 bln, .str blq, .int .i64 bgk, .int .i64 bgn, .str bgq], .box [.int .i64 0, .int .i64 0, .int .i64 0, .int .i64 0, .str ⟨#[]⟩, .int .i64 0, .int .i64 0, .str ⟨#[]⟩]] rfl alk aln alq blk bln blq
  have hx := run_max d [.box [.int .i64 am, .int .i64 au, .int .i64 alk, .int .i64 aln, .str alq, .int .i64 agk, .int .i64 agn, .str agq], .box [.int .i64 bm, .int .i64 bu, .int .i64 blk, .int .i64 bln, .str blq, .int .i64 bgk, .int .i64 bgn, .str bgq], .box [.int .i64 0, .int .i64 0, .int .i64 0, .int .i64 0, .str ⟨#[]⟩, .int .i64 0, .int .i64 0, .str ⟨#[]⟩]] rfl agk agn agq bgk bgn bgq
  rw [e]
  dsimp only
  clear e
  simp -implicitDefEqProofs (disch := omega) only [go_sem, Nat.reduceBEq, Nat.reduceAdd, Nat.reduceSub, Nat.reduceMul, Nat.reduceLeDiff, Nat.reduceEqDiff, Nat.reduceLT, Int.reduceNeg, Int.reduceAdd, Int.reduceSub, Int.reduceMul, Int.reduceLE, Int.reduceLT, Int.reduceEq, Int.reduceToNat, reduceCtorEq, run_KnownOk, IntWalk.i64_in, hka, hkb, e1, e2, e3, h4, evC_draw, evD31x0, E31x0, hm, hx, Val.cells, Kn.cells]
theorem run_knBothI (d : Nat) (am au : Int) (alk aln : Int) (alq : ByteArray) (agk agn : Int) (agq : ByteArray) (bm bu : Int) (blk bln : Int) (blq : ByteArray) (bgk bgn : Int) (bgq : ByteArray) : retP (runD tab noExt (d + 5)) 31 [.agg [.int .i64 am, .int .i64 au, .int .i64 alk, .int .i64 aln, .str alq, .int .i64 agk, .int .i64 agn, .str agq], .agg [.int .i64 bm, .int .i64 bu, .int .i64 blk, .int .i64 bln, .str blq, .int .i64 bgk, .int .i64 bgn, .str bgq]] = some [.agg (knBoth (⟨am, au, (⟨alk, aln, alq⟩ : Val), (⟨agk, agn, agq⟩ : Val)⟩ : Kn) (⟨bm, bu, (⟨blk, bln, blq⟩ : Val), (⟨bgk, bgn, bgq⟩ : Val)⟩ : Kn)).cells] := by
  by_cases hka : Kn.ok (⟨am, au, (⟨alk, aln, alq⟩ : Val), (⟨agk, agn, agq⟩ : Val)⟩ : Kn) = true
  · by_cases hkb : Kn.ok (⟨bm, bu, (⟨blk, bln, blq⟩ : Val), (⟨bgk, bgn, bgq⟩ : Val)⟩ : Kn) = true
    · have ha : 0 ≤ am ∧ am ≤ 100 ∧ -999900 ≤ au ∧ au ≤ 999900 := Kn.ok_many hka
      have hb : 0 ≤ bm ∧ bm ≤ 100 ∧ -999900 ≤ bu ∧ bu ≤ 999900 := Kn.ok_many hkb
      by_cases h1 : am = 0
      · exact kbI2 (hka := hka) (hkb := hkb) (e1 := eq_true h1) ..
      · by_cases h2 : bm = 0
        · exact kbI3 (hka := hka) (hkb := hkb) (e1 := eq_false h1) (e2 := eq_true h2) ..
        · by_cases h3 : alk = blk
          · by_cases h4 : 100 < am + bm
            · exact kbI5 (hka := hka) (hkb := hkb) (ha := ha) (hb := hb) (e1 := eq_false h1) (e2 := eq_false h2) (e3 := eq_true h3) (h4 := h4) ..
            · exact kbI6 (hka := hka) (hkb := hkb) (ha := ha) (hb := hb) (h1 := h1) (h2 := h2) (h3 := h3) (h4 := h4) ..
          · exact kbI4 (hka := hka) (hkb := hkb) (ha := ha) (hb := hb) (e1 := eq_false h1) (e2 := eq_false h2) (e3 := eq_false h3) ..
    · exact kbI1 (hka := hka) (hkb := hkb) ..
  · exact kbI0 (hka := hka) ..
theorem loop_knColI (d : Nat) (c' : Bool) (rs : List Row) (n : Int) (hs : rs.length < 1099511627776) (h0 : 0 ≤ n) (hn : ∀ r ∈ rs, n < r.vs.length) (K : Nat) (hK : rs.length ≤ K) (k0 : Kn) :
    LoopS (runD tab noExt (d + 5)) (drawI (runD tab noExt (d + 5))) [1, 4, 5, 8, 9, 10] [4, 5] L88x0 2 K [(1, .int .i64 n), (4, .ptr 0 0 0 0), (5, .ptr 1 0 0 0), (8, .sl c' 1 (rs.map Row.cells)), (9, .int .i64 (rs.length : Int)), (10, .int .i64 0)] [.box [.int .i64 0, .int .i64 0, .int .i64 0, .int .i64 0, .str ⟨#[]⟩, .int .i64 0, .int .i64 0, .str ⟨#[]⟩], .box k0.cells] =
      (some (.exit 0, [(4, .ptr 0 0 0 0), (5, .ptr 1 0 0 0)], [.box [.int .i64 0, .int .i64 0, .int .i64 0, .int .i64 0, .str ⟨#[]⟩, .int .i64 0, .int .i64 0, .str ⟨#[]⟩], .box (rs.foldl (fun k r => knBoth k (knOf (colAt n r))) k0).cells]) : Out) := by
  have key := LoopS_fold (run := runD tab noExt (d + 5)) (draw := drawI (runD tab noExt (d + 5))) (live := [1, 4, 5, 8, 9, 10]) (out := [4, 5]) (c := L88x0) (n0 := 2) rs (fun k r => knBoth k (knOf (colAt n r)))
    (fun (i : Nat) _ => [(1, .int .i64 n), (4, .ptr 0 0 0 0), (5, .ptr 1 0 0 0), (8, .sl c' 1 (rs.map Row.cells)), (9, .int .i64 (rs.length : Int)), (10, .int .i64 i)]) (fun _ k => [.box [.int .i64 0, .int .i64 0, .int .i64 0, .int .i64 0, .str ⟨#[]⟩, .int .i64 0, .int .i64 0, .str ⟨#[]⟩], .box k.cells]) (fun k => some (.exit 0, [(4, .ptr 0 0 0 0), (5, .ptr 1 0 0 0)], [.box [.int .i64 0, .int .i64 0, .int .i64 0, .int .i64 0, .str ⟨#[]⟩, .int .i64 0, .int .i64 0, .str ⟨#[]⟩], .box k.cells])) (fun k K => ?_) (fun (i : Nat) x k K hi hx => ?_) K hK k0
  · simp only [Int.natCast_zero] at key
    exact key
  · rw [LoopS_eq]
    simp -implicitDefEqProofs only [go_sem, Nat.reduceBEq, Nat.reduceAdd, Nat.reduceSub, Nat.reduceMul, Nat.reduceLeDiff, Nat.reduceEqDiff, Nat.reduceLT, Int.reduceNeg, Int.reduceAdd, Int.reduceSub, Int.reduceMul, Int.reduceLE, Int.reduceLT, Int.reduceEq, Int.reduceToNat, reduceCtorEq, evL88x0, B88x0, Int.lt_irrefl, Kn.cells]
  · have hlen := hn x (List.mem_of_getElem? hx)
    have hv : x.vs[n.toNat]? = some (colAt n x) := at_getD _ (by omega)
    rw [LoopS_eq]
    simp -implicitDefEqProofs (disch := first | omega | assumption) only [go_sem, Nat.reduceBEq, Nat.reduceAdd, Nat.reduceSub, Nat.reduceMul, Nat.reduceLeDiff, Nat.reduceEqDiff, Nat.reduceLT, Int.reduceNeg, Int.reduceAdd, Int.reduceSub, Int.reduceMul, Int.reduceLE, Int.reduceLT, Int.reduceEq, Int.reduceToNat, reduceCtorEq, evL88x0, B88x0, evC_draw, evD88x0, E88x0, hi, hx, hv, h0, IntWalk.i64_in, Kn.cells, Row.cells, Row.v, Val.cells, run_knOfI, run_knBothI, Val.eta, Kn.eta]
theorem cells_scalarK (k : Kn) : k.cells.all scalar = true := rfl
-- find88
theorem run_knColIn (d : Nat) (c' : Bool) (rs : List Row) (n : Int) (hs : rs.length < 1099511627776) (h0 : 0 ≤ n) (hn : ∀ r ∈ rs, n < r.vs.length) : retP (runD tab noExt (d + 6)) 88 [.sl c' 1 (rs.map Row.cells), .int .i64 n] = some [.agg (rs.foldl (fun k r => knBoth k (knOf (colAt n r))) Kn.zero).cells] := by
  rw [retP, runD_eq find88 _ _ _ (by simp)]
  have hl := loop_knColI d c' rs n hs h0 hn 1099511627775 (by omega) Kn.zero
  simp only [Kn.cells, Kn.zero, Val.zero] at hl ⊢
  simp -implicitDefEqProofs (disch := omega) only [go_sem, Nat.reduceBEq, Nat.reduceAdd, Nat.reduceSub, Nat.reduceMul, Nat.reduceLeDiff, Nat.reduceEqDiff, Nat.reduceLT, Int.reduceNeg, Int.reduceAdd, Int.reduceSub, Int.reduceMul, Int.reduceLE, Int.reduceLT, Int.reduceEq, Int.reduceToNat, reduceCtorEq]
  rw [hl]
  simp -implicitDefEqProofs (disch := omega) only [go_sem, Nat.reduceBEq, Nat.reduceAdd, Nat.reduceSub, Nat.reduceMul, Nat.reduceLeDiff, Nat.reduceEqDiff, Nat.reduceLT, Int.reduceNeg, Int.reduceAdd, Int.reduceSub, Int.reduceMul, Int.reduceLE, Int.reduceLT, Int.reduceEq, Int.reduceToNat, reduceCtorEq]
-- find28
theorem run_knColI (d : Nat) (c c' : Bool) (cs : List Col) (rs : List Row) (n : Int) (hc : cs.length < 1099511627776) (hs : rs.length < 1099511627776) (hsh : Short rs) :
    retP (runD tab noExt (d + 13)) 28 [.sl c 2 (cs.map Col.cells), .sl c' 1 (rs.map Row.cells), .int .i64 n] = some [.agg (knCol cs rs n).cells] := by
  rw [retP, runD_eq find28 _ _ _ (by simp)]
  have hr := run_rowsOkI d c c' cs rs hc hs hsh
  have hco := run_colsOkI (d + 7) c cs hc
  unfold knCol
  cases h1 : colsOk cs
  · have h2 : rowsOk cs rs = false := by
      cases h : rowsOk cs rs
      · rfl
      · simp only [rowsOk, Bool.and_eq_true] at h; rw [h.2] at h1; cases h1
    rw [h2]
    simp -implicitDefEqProofs (disch := omega) only [go_sem, Nat.reduceBEq, Nat.reduceAdd, Nat.reduceSub, Nat.reduceMul, Nat.reduceLeDiff, Nat.reduceEqDiff, Nat.reduceLT, Int.reduceNeg, Int.reduceAdd, Int.reduceSub, Int.reduceMul, Int.reduceLE, Int.reduceLT, Int.reduceEq, Int.reduceToNat, reduceCtorEq, hco, h1, Kn.cells, Kn.zero, Val.zero]
  · by_cases h3 : (100 : Int) < rs.length
    · simp -implicitDefEqProofs (disch := omega) only [go_sem, Nat.reduceBEq, Nat.reduceAdd, Nat.reduceSub, Nat.reduceMul, Nat.reduceLeDiff, Nat.reduceEqDiff, Nat.reduceLT, Int.reduceNeg, Int.reduceAdd, Int.reduceSub, Int.reduceMul, Int.reduceLE, Int.reduceLT, Int.reduceEq, Int.reduceToNat, reduceCtorEq, hco, h1, h3]
      cases h2 : rowsOk cs rs <;> simp [h3, Kn.cells, Kn.zero, Val.zero]
    · cases h2 : rowsOk cs rs
      · simp -implicitDefEqProofs (disch := omega) only [go_sem, Nat.reduceBEq, Nat.reduceAdd, Nat.reduceSub, Nat.reduceMul, Nat.reduceLeDiff, Nat.reduceEqDiff, Nat.reduceLT, Int.reduceNeg, Int.reduceAdd, Int.reduceSub, Int.reduceMul, Int.reduceLE, Int.reduceLT, Int.reduceEq, Int.reduceToNat, reduceCtorEq, hco, h1, h3, hr, h2, Kn.cells, Kn.zero, Val.zero]
      · by_cases h4 : 0 ≤ n ∧ n ≤ (cs.length : Int) - 1
        · have hk := run_knColIn (d + 6) c' rs n hs h4.1 (fun r hr => by have := fits_len h2 r hr; omega)
          simp -implicitDefEqProofs (disch := omega) only [go_sem, Nat.reduceBEq, Nat.reduceAdd, Nat.reduceSub, Nat.reduceMul, Nat.reduceLeDiff, Nat.reduceEqDiff, Nat.reduceLT, Int.reduceNeg, Int.reduceAdd, Int.reduceSub, Int.reduceMul, Int.reduceLE, Int.reduceLT, Int.reduceEq, Int.reduceToNat, reduceCtorEq, hco, h1, h3, hr, h2, h4, run_between, IntWalk.i64_in, hk, Kn.cells]
        · simp -implicitDefEqProofs (disch := omega) only [go_sem, Nat.reduceBEq, Nat.reduceAdd, Nat.reduceSub, Nat.reduceMul, Nat.reduceLeDiff, Nat.reduceEqDiff, Nat.reduceLT, Int.reduceNeg, Int.reduceAdd, Int.reduceSub, Int.reduceMul, Int.reduceLE, Int.reduceLT, Int.reduceEq, Int.reduceToNat, reduceCtorEq, hco, h1, h3, hr, h2, h4, run_between, IntWalk.i64_in, Kn.cells, Kn.zero, Val.zero]
end Go.Proofs.Ytnnjpiepoeknnaa.PE
/- What is known of a column: what both functions come to, of trees. -/
set_option linter.unusedVariables false
set_option linter.unusedSimpArgs false
set_option maxHeartbeats 4000000
namespace Go.Proofs.Ytnnjpiepoeknnaa.PE
open Go.RowKit

theorem fold_vs {β : Type} {f : β → List Val → β} : ∀ {a b : List Row}, a.map Row.vs = b.map Row.vs → ∀ k, a.foldl (fun k r => f k r.vs) k = b.foldl (fun k r => f k r.vs) k
  | [], [], _, _ => rfl
  | x :: a, y :: b, h, k => by
    simp only [List.map_cons, List.cons.injEq] at h
    rw [List.foldl_cons, List.foldl_cons, h.1, fold_vs h.2]
  | [], _ :: _, h, _ => by simp at h
  | _ :: _, [], h, _ => by simp at h
theorem rowsOk_vs' {cs : List Col} {a b : List Row} (h : a.map Row.vs = b.map Row.vs) : rowsOk cs a = rowsOk cs b := by
  unfold rowsOk rowsFit
  rw [all_vs h]
theorem knCol_vs {cs : List Col} {a b : List Row} {n : Int} (h : a.map rowU = b.map rowU) : knCol cs a n = knCol cs b n := by
  have h := vss_of h
  have l1 : a.length = b.length := by have := congrArg List.length h; simpa using this
  have e := fold_vs (f := fun k vs => knBoth k (knOf (colAt n ⟨false, vs⟩))) h Kn.zero
  unfold knCol
  rw [rowsOk_vs' h, l1]
  have c : ∀ r : Row, colAt n ⟨false, r.vs⟩ = colAt n r := fun r => rfl
  simp only [c] at e
  rw [e]
theorem core_KnownColumn {x0 x1 : List (List U)} (h0 : ∃ p, PurF (.sub fdColumn) p (.sub x0)) (L0 : LenF 1048576 1048576 (.sub fdColumn) (.sub x0)) (h1 : ∃ p, PurF (.sub fdValueS) p (.sub x1)) (L1 : LenF 1048576 1048576 (.sub fdValueS) (.sub x1)) (n2 : Int) (i2 : -9223372036854775808 ≤ n2 ∧ n2 ≤ 9223372036854775807) :
    ∃ (a0 a1 a2 a3 : Int) (a4 : ByteArray) (a5 a6 : Int) (a7 : ByteArray),
      (∀ {q0 q1 : V}, PurF (.sub fdColumn) q0 (.sub x0) → PurF (.sub fdValueS) q1 (.sub x1) → retP (runD tab noExt 60) 29 [q0, q1, .int .i64 n2] = some [.agg [.int .i64 a0, .int .i64 a1, .int .i64 a2, .int .i64 a3, .str a4, .int .i64 a5, .int .i64 a6, .str a7]]) ∧
      (∀ {q0 q1 : V}, PurF (.sub fdColumn) q0 (.sub x0) → PurF (.sub fdValueS) q1 (.sub x1) → retP (runD tab noExt 60) 28 [q0, q1, .int .i64 n2] = some [.agg [.int .i64 a0, .int .i64 a1, .int .i64 a2, .int .i64 a3, .str a4, .int .i64 a5, .int .i64 a6, .str a7]]) := by
  obtain ⟨p0, g0⟩ := h0
  obtain ⟨p1, g1⟩ := h1
  obtain ⟨_, _, _, z0⟩ := purS_Column g0
  obtain ⟨_, _, _, z1⟩ := purS_ValueS g1
  obtain ⟨cs, rfl, rfl⟩ := colsU_of z0
  obtain ⟨rs, rfl, rfl⟩ := rowsU_of z1
  have e1 : rs.map (fun r => vsU r.vs) = rs.map rowU := rfl
  rw [e1] at L1 ⊢
  simp only [LenF, List.length_map] at L0
  have l0 := L0.1
  refine ⟨(knCol cs rs n2).many, (knCol cs rs n2).sum, (knCol cs rs n2).least.kind, (knCol cs rs n2).least.n, (knCol cs rs n2).least.s, (knCol cs rs n2).most.kind, (knCol cs rs n2).most.n, (knCol cs rs n2).most.s, fun k0 k1 => ?_, fun k0 k1 => ?_⟩
  all_goals
    obtain ⟨c0, rfl⟩ := cols_each k0
    obtain ⟨c1, r2, rfl, f1⟩ := rows_each k1
    obtain ⟨s1, s2⟩ := lim_of f1 L1
    have hr := s1.1
    rw [← knCol_vs (cs := cs) (n := n2) f1]
  · exact run_knCol 54 c0 c1 cs r2 n2 (by omega) (by omega) s2
  · exact run_knColI 47 c0 c1 cs r2 n2 (by omega) (by omega) s2
end Go.Proofs.Ytnnjpiepoeknnaa.PE
/- The exact statement of FnExactKnownColumn. -/
set_option linter.unusedVariables false
set_option linter.unusedSimpArgs false
set_option maxHeartbeats 8000000
namespace Go.Proofs.Ytnnjpiepoeknnaa.PE
open Go.RowKit

-- find7
theorem law_FnExactKnownColumn {p0 : V} {x0 : List (List U)} {p1 : V} {x1 : List (List U)} (n2 : Int) (g0 : PurF (.sub fdColumn) p0 (.sub x0)) (B0 : LenF 9223372036854775807 9223372036854775807 (.sub fdColumn) (.sub x0)) (g1 : PurF (.sub fdValueS) p1 (.sub x1)) (B1 : LenF 9223372036854775807 9223372036854775807 (.sub fdValueS) (.sub x1)) (i2 : -9223372036854775808 ≤ n2 ∧ n2 ≤ 9223372036854775807) : ∃ d h1, runD tab noExt d 7 [p0, p1, .int .i64 n2] [] = some ([.bool true], h1) := by
  refine ⟨61, ?_⟩
  rw [runD_eq find7 _ _ _ (by simp)]
  obtain ⟨cl0, ct0, rfl, hz0⟩ := purS_Column g0
  have hl0 := Zip2_len hz0
  obtain ⟨cl1, ct1, rfl, hz1⟩ := purS_ValueS g1
  have hl1 := Zip2_len hz1
  have z0 := run_szColumnS 59 (1048576) g0 B0 (by omega) (by omega)
  have y0 := szF_spec (N := 1048576) (.sub fdColumn) (.sub x0) (1048576) (by decide) (by omega)
  generalize szF (.sub fdColumn) (.sub x0) (1048576) = l0 at z0 y0
  by_cases q0 : l0 < 0
  · simp -implicitDefEqProofs (disch := omega) only [go_sem, Nat.reduceBEq, Nat.reduceAdd, Nat.reduceSub, Nat.reduceMul, Nat.reduceLeDiff, Nat.reduceEqDiff, Nat.reduceLT, Int.reduceNeg, Int.reduceAdd, Int.reduceSub, Int.reduceMul, Int.reduceLE, Int.reduceLT, Int.reduceEq, Int.reduceToNat, reduceCtorEq, z0, q0]
    exact ⟨_, rfl⟩
  obtain ⟨y0a, L0, y0c⟩ := y0 (by omega) (by omega)
  have z1 := run_szValueSS 57 (l0) g1 B1 (by omega) (by omega)
  have y1 := szF_spec (N := 1048576) (.sub fdValueS) (.sub x1) (l0) (by decide) (by omega)
  generalize szF (.sub fdValueS) (.sub x1) (l0) = l1 at z1 y1
  by_cases q1 : l1 < 0
  · simp -implicitDefEqProofs (disch := omega) only [go_sem, Nat.reduceBEq, Nat.reduceAdd, Nat.reduceSub, Nat.reduceMul, Nat.reduceLeDiff, Nat.reduceEqDiff, Nat.reduceLT, Int.reduceNeg, Int.reduceAdd, Int.reduceSub, Int.reduceMul, Int.reduceLE, Int.reduceLT, Int.reduceEq, Int.reduceToNat, reduceCtorEq, z0, q0, z1, q1]
    exact ⟨_, rfl⟩
  obtain ⟨y1a, L1, y1c⟩ := y1 (by omega) (by omega)
  have M0 := LenF_mono (n' := big) (m' := big) (by decide) (by decide) _ L0
  have P0 : x0.length ≤ 1048576 ∧ AllU (LenR 1048576 1048576 fdColumn) x0 := by simpa only [LenF] using L0
  have M1 := LenF_mono (n' := big) (m' := big) (by decide) (by decide) _ L1
  have P1 : x1.length ≤ 1048576 ∧ AllU (LenR 1048576 1048576 fdValueS) x1 := by simpa only [LenF] using L1
  obtain ⟨a0r, a1r, a2r, a3r, a4r, a5r, a6r, a7r, cS, cI⟩ := core_KnownColumn ⟨_, g0⟩ L0 ⟨_, g1⟩ L1 n2 i2
  obtain ⟨v0, c0, d0, r0, o0, n0'⟩ := run_toColumnS 58 g0 P0.1 P0.2
  obtain ⟨t0, h0, s0, e0, a0, u0, w0, f0, m0⟩ := own_call (h := ([] : Heap)) (args := [(.sl cl0 2 ct0)]) (by simp only [pureDAs, mapO, pureDA_pur g0]) r0 o0 n0'
  have b0 := own_ids a0 w0
  obtain ⟨v1, c1, d1, r1, o1, n1'⟩ := run_toValueSS 57 g1 P1.1 P1.2
  obtain ⟨t1, h1, s1, e1, a1, u1, w1, f1, m1⟩ := own_call (h := h0) (args := [(.sl cl1 1 ct1)]) (by simp only [pureDAs, mapO, pureDA_pur g1]) r1 o1 n1'
  have b1 := own_ids a1 w1
  have o1x := OwnF_frame _ a0 (fun j hj => f1 j (OwnF_lt _ a0 j hj))
  obtain ⟨qs0, xs0, ys0⟩ := pureDA_own o1x (by decide)
  obtain ⟨qs1, xs1, ys1⟩ := pureDA_own a1 (by decide)
  have eS := cS ys0 ys1
  obtain ⟨hd, eW⟩ := call_spec (h := h1) (args := [t0, t1, .int .i64 n2]) (by simp only [pureDAs, mapO, xs0, xs1, pureDA_int, pureDA_bool, pureDA_str]) eS
  try simp only [oneOf] at eW
  have A1 : (hd ++ [Blk.box [.int .i64 0, .int .i64 0, .int .i64 0, .int .i64 0, .str ⟨#[]⟩, .int .i64 0, .int .i64 0, .str ⟨#[]⟩]])[hd.length]? = some (Blk.box [.int .i64 0, .int .i64 0, .int .i64 0, .int .i64 0, .str ⟨#[]⟩, .int .i64 0, .int .i64 0, .str ⟨#[]⟩]) := by simp
  have A2 : (hd ++ [Blk.box [.int .i64 0, .int .i64 0, .int .i64 0, .int .i64 0, .str ⟨#[]⟩, .int .i64 0, .int .i64 0, .str ⟨#[]⟩]]).set hd.length (Blk.box [.int .i64 a0r, .int .i64 a1r, .int .i64 a2r, .int .i64 a3r, .str a4r, .int .i64 a5r, .int .i64 a6r, .str a7r]) = hd ++ [Blk.box [.int .i64 a0r, .int .i64 a1r, .int .i64 a2r, .int .i64 a3r, .str a4r, .int .i64 a5r, .int .i64 a6r, .str a7r]] := by simp
  obtain ⟨v2, c2, d2, r2, o2, n2'⟩ := run_toColumnS 58 g0 P0.1 P0.2
  obtain ⟨t2, h2, s2, e2, a2, u2, w2, f2, m2⟩ := own_call (h := (hd ++ [Blk.box [.int .i64 a0r, .int .i64 a1r, .int .i64 a2r, .int .i64 a3r, .str a4r, .int .i64 a5r, .int .i64 a6r, .str a7r]])) (args := [(.sl cl0 2 ct0)]) (by simp only [pureDAs, mapO, pureDA_pur g0]) r2 o2 n2'
  have b2 := own_ids a2 w2
  obtain ⟨v3, c3, d3, r3, o3, n3'⟩ := run_toValueSS 57 g1 P1.1 P1.2
  obtain ⟨t3, h3, s3, e3, a3, u3, w3, f3, m3⟩ := own_call (h := h2) (args := [(.sl cl1 1 ct1)]) (by simp only [pureDAs, mapO, pureDA_pur g1]) r3 o3 n3'
  have b3 := own_ids a3 w3
  have o2x := OwnF_frame _ a2 (fun j hj => f3 j (OwnF_lt _ a2 j hj))
  obtain ⟨qg2, xg2, yg2⟩ := pureDA_own o2x (by decide)
  obtain ⟨qg3, xg3, yg3⟩ := pureDA_own a3 (by decide)
  have eI := call_agg (h := h3) (args := [t2, t3, .int .i64 n2]) (cs := [.int .i64 a0r, .int .i64 a1r, .int .i64 a2r, .int .i64 a3r, .str a4r, .int .i64 a5r, .int .i64 a6r, .str a7r]) rfl (by simp only [pureDAs, mapO, xg2, xg3, pureDA_int, pureDA_bool, pureDA_str]) (cI yg2 yg3)
  have N2 : hd.length < h2.length := by have z := m2; simp only [List.length_append, List.length_cons, List.length_nil] at z; omega
  have N3 : hd.length < h3.length := Nat.lt_of_lt_of_le N2 m3
  have B0 : h3[hd.length]? = some (Blk.box [.int .i64 a0r, .int .i64 a1r, .int .i64 a2r, .int .i64 a3r, .str a4r, .int .i64 a5r, .int .i64 a6r, .str a7r]) := by rw [f3 _ N2, f2 _ (by simp)]; simp
  have B1 : (h3 ++ [Blk.box [.int .i64 0, .int .i64 0, .int .i64 0, .int .i64 0, .str ⟨#[]⟩, .int .i64 0, .int .i64 0, .str ⟨#[]⟩]])[h3.length]? = some (Blk.box [.int .i64 0, .int .i64 0, .int .i64 0, .int .i64 0, .str ⟨#[]⟩, .int .i64 0, .int .i64 0, .str ⟨#[]⟩]) := by simp
  have B2 : (h3 ++ [Blk.box [.int .i64 0, .int .i64 0, .int .i64 0, .int .i64 0, .str ⟨#[]⟩, .int .i64 0, .int .i64 0, .str ⟨#[]⟩]]).set h3.length (Blk.box [.int .i64 a0r, .int .i64 a1r, .int .i64 a2r, .int .i64 a3r, .str a4r, .int .i64 a5r, .int .i64 a6r, .str a7r]) = h3 ++ [Blk.box [.int .i64 a0r, .int .i64 a1r, .int .i64 a2r, .int .i64 a3r, .str a4r, .int .i64 a5r, .int .i64 a6r, .str a7r]] := by simp
  have B3 : (h3 ++ [Blk.box [.int .i64 a0r, .int .i64 a1r, .int .i64 a2r, .int .i64 a3r, .str a4r, .int .i64 a5r, .int .i64 a6r, .str a7r]])[hd.length]? = some (Blk.box [.int .i64 a0r, .int .i64 a1r, .int .i64 a2r, .int .i64 a3r, .str a4r, .int .i64 a5r, .int .i64 a6r, .str a7r]) := by rw [List.getElem?_append_left N3]; exact B0
  have B4 : (h3 ++ [Blk.box [.int .i64 a0r, .int .i64 a1r, .int .i64 a2r, .int .i64 a3r, .str a4r, .int .i64 a5r, .int .i64 a6r, .str a7r]])[h3.length]? = some (Blk.box [.int .i64 a0r, .int .i64 a1r, .int .i64 a2r, .int .i64 a3r, .str a4r, .int .i64 a5r, .int .i64 a6r, .str a7r]) := by simp
  have o3x := OwnF_frame (h' := h3 ++ [Blk.box [.int .i64 a0r, .int .i64 a1r, .int .i64 a2r, .int .i64 a3r, .str a4r, .int .i64 a5r, .int .i64 a6r, .str a7r]]) _ o2x (fun j hj => List.getElem?_append_left (OwnF_lt _ o2x j hj))
  have o4x := OwnF_frame (h' := h3 ++ [Blk.box [.int .i64 a0r, .int .i64 a1r, .int .i64 a2r, .int .i64 a3r, .str a4r, .int .i64 a5r, .int .i64 a6r, .str a7r]]) _ a3 (fun j hj => List.getElem?_append_left (OwnF_lt _ a3 j hj))
  have EG1 := call_bool (h := (h3 ++ [Blk.box [.int .i64 a0r, .int .i64 a1r, .int .i64 a2r, .int .i64 a3r, .str a4r, .int .i64 a5r, .int .i64 a6r, .str a7r]])) (args := [.agg [.int .i64 a0r, .int .i64 a1r, .int .i64 a2r, .int .i64 a3r, .str a4r, .int .i64 a5r, .int .i64 a6r, .str a7r], .agg [.int .i64 a0r, .int .i64 a1r, .int .i64 a2r, .int .i64 a3r, .str a4r, .int .i64 a5r, .int .i64 a6r, .str a7r]]) (by simp only [pureDAs, mapO, pureDA, pureD, Option.map_some]) (run_eqKnown 58 a0r a1r a2r a3r a4r a5r a6r a7r)
  obtain ⟨v5, c5, d5, r5, o5, n5'⟩ := run_toColumnS 58 g0 P0.1 P0.2
  obtain ⟨t5, h5, s5, e5, a5, u5, w5, f5, m5⟩ := own_call (h := (h3 ++ [Blk.box [.int .i64 a0r, .int .i64 a1r, .int .i64 a2r, .int .i64 a3r, .str a4r, .int .i64 a5r, .int .i64 a6r, .str a7r]])) (args := [(.sl cl0 2 ct0)]) (by simp only [pureDAs, mapO, pureDA_pur g0]) r5 o5 n5'
  have b5 := own_ids a5 w5
  have o5x := OwnF_frame _ o3x (fun j hj => f5 j (OwnF_lt _ o3x j hj))
  have o6x := OwnF_frame _ o4x (fun j hj => f5 j (OwnF_lt _ o4x j hj))
  obtain ⟨qA0, xA0, yA0⟩ := pureDA_own o5x (by decide)
  obtain ⟨qB0, xB0, yB0⟩ := pureDA_own a5 (by decide)
  have EA0 := call_bool (h := h5) (args := [t2, t5]) (by simp only [pureDAs, mapO, xA0, xB0]) (run_eqColumnS 58 yA0 yB0 M0)
  obtain ⟨v6, c6, d6, r6, o6, n6'⟩ := run_toValueSS 57 g1 P1.1 P1.2
  obtain ⟨t6, h6, s6, e6, a6, u6, w6, f6, m6⟩ := own_call (h := h5) (args := [(.sl cl1 1 ct1)]) (by simp only [pureDAs, mapO, pureDA_pur g1]) r6 o6 n6'
  have b6 := own_ids a6 w6
  have o7x := OwnF_frame _ o5x (fun j hj => f6 j (OwnF_lt _ o5x j hj))
  have o8x := OwnF_frame _ o6x (fun j hj => f6 j (OwnF_lt _ o6x j hj))
  obtain ⟨qA1, xA1, yA1⟩ := pureDA_own o8x (by decide)
  obtain ⟨qB1, xB1, yB1⟩ := pureDA_own a6 (by decide)
  have EA1 := call_bool (h := h6) (args := [t3, t6]) (by simp only [pureDAs, mapO, xA1, xB1]) (run_eqValueSS 57 yA1 yB1 M1)
  simp -implicitDefEqProofs (disch := omega) only [go_sem, Nat.reduceBEq, Nat.reduceAdd, Nat.reduceSub, Nat.reduceMul, Nat.reduceLeDiff, Nat.reduceEqDiff, Nat.reduceLT, Int.reduceNeg, Int.reduceAdd, Int.reduceSub, Int.reduceMul, Int.reduceLE, Int.reduceLT, Int.reduceEq, Int.reduceToNat, reduceCtorEq, z0, q0, z1, q1, e0, e1, eW, A1, A2, e2, e3, eI, B1, B2, B3, B4, EG1, e5, EA0, e6, EA1]
  exact ⟨_, rfl⟩
end Go.Proofs.Ytnnjpiepoeknnaa.PE
/- Arguments of any plain kind, as they are read: values of the evaluator. -/
set_option linter.unusedVariables false
set_option linter.unusedSimpArgs false
namespace Go.Proofs.Ytnnjpiepoeknnaa.PE
open Go.RowKit

mutual
def tyF (P : Program) : Nat → TypeId → Fd → Bool
  | 0, _, _ => false
  | n + 1, t, .int k => match P.underlying t with
    | some (.int k') => decide (k' = k)
    | _ => false
  | n + 1, t, .bool => match P.underlying t with
    | some .bool => true
    | _ => false
  | n + 1, t, .str => match P.underlying t with
    | some .string => true
    | _ => false
  | n + 1, t, .sub fs => match P.underlying t with
    | some (.slice e) => decide (P.cellsOf e = fs.length) && decide (0 < fs.length) && tyR P n e fs
    | _ => false
def tyR (P : Program) : Nat → TypeId → List Fd → Bool
  | 0, _, _ => false
  | n + 1, t, fs => match P.underlying t with
    | some (.struct flds) => decide (P.cellsOf t = fs.length) && tyS P n flds.toList 0 fs
    | _ => match fs with
      | [f] => tyF P n t f
      | _ => false
def tyS (P : Program) : Nat → List Field → Nat → List Fd → Bool
  | 0, _, _, _ => false
  | n + 1, [], _, fs => fs.isEmpty
  | n + 1, fl :: r, off, fs => decide (fl.offset = off) && tyR P n fl.type (fs.take (P.cellsOf fl.type)) && decide (P.cellsOf fl.type ≤ fs.length) && tyS P n r (off + P.cellsOf fl.type) (fs.drop (P.cellsOf fl.type))
end

def B63 : Nat := 9223372036854775807
section
variable {H : Type} {enc : TypeId × Value → H} {P : Program} {w : World} {base : Nat} {spare : Nat → Bool} {held : Bool}

/-- Cells and what they are. -/
def Got (w : World) (fs : List Fd) (cs : List Value) : Prop := ∃ (ps : List V) (us : List U), PurR fs ps us ∧ LenR B63 B63 fs us ∧ ps.length = cs.length ∧ ∀ (i : Nat) (y : V), ps[i]? = some y → ∃ u, cs[i]? = some u ∧ Rep w (fun b => b < w.heap.size) u y
theorem Got.one {f : Fd} {v : Value} {p : V} {u : U} (h1 : PurF f p u) (h2 : LenF B63 B63 f u) (h3 : Rep w (fun b => b < w.heap.size) v p) : Got w [f] [v] := by
  refine ⟨[p], [u], by simp only [PurR]; exact ⟨p, [], u, [], rfl, rfl, h1, rfl, rfl⟩, by simp only [LenR]; exact ⟨h2, trivial⟩, rfl, fun i y hy => ?_⟩
  cases i with
  | zero => simp at hy; subst hy; exact ⟨v, rfl, h3⟩
  | succ i => simp at hy
theorem PurR_len : ∀ {fs : List Fd} {ps : List V} {us : List U}, PurR fs ps us → ps.length = fs.length ∧ us.length = fs.length
  | [], _, _, h => by simp only [PurR] at h; rw [h.1, h.2]; exact ⟨rfl, rfl⟩
  | f :: fs, _, _, h => by
    simp only [PurR] at h
    obtain ⟨v, c', u, x', rfl, rfl, _, h2⟩ := h
    have := PurR_len h2
    simp [this.1, this.2]
theorem PurR_app : ∀ {f1 f2 : List Fd} {p1 p2 : List V} {u1 u2 : List U}, PurR f1 p1 u1 → PurR f2 p2 u2 → PurR (f1 ++ f2) (p1 ++ p2) (u1 ++ u2)
  | [], _, _, _, _, _, h, h2 => by simp only [PurR] at h; rw [h.1, h.2]; exact h2
  | f :: f1, f2, _, p2, _, u2, h, h2 => by
    simp only [PurR] at h
    obtain ⟨v, c', u, x', rfl, rfl, h3, h4⟩ := h
    show PurR (f :: (f1 ++ f2)) _ _
    simp only [PurR]
    exact ⟨v, c' ++ p2, u, x' ++ u2, rfl, rfl, h3, PurR_app h4 h2⟩
theorem LenR_app {n m : Nat} : ∀ {f1 f2 : List Fd} {u1 u2 : List U}, u1.length = f1.length → LenR n m f1 u1 → LenR n m f2 u2 → LenR n m (f1 ++ f2) (u1 ++ u2)
  | [], _, u1, _, hl, _, h2 => by
    have : u1 = [] := List.eq_nil_of_length_eq_zero hl
    subst this
    exact h2
  | f :: f1, f2, u :: u1, u2, hl, h, h2 => by
    show LenR n m (f :: (f1 ++ f2)) (u :: (u1 ++ u2))
    simp only [LenR] at h ⊢
    exact ⟨h.1, LenR_app (by simpa using hl) h.2 h2⟩
  | _ :: _, _, [], _, hl, _, _ => by simp at hl
theorem Got.app {f1 f2 : List Fd} {c1 c2 : List Value} (h1 : Got w f1 c1) (h2 : Got w f2 c2) : Got w (f1 ++ f2) (c1 ++ c2) := by
  obtain ⟨p1, u1, a1, a2, a3, a4⟩ := h1
  obtain ⟨p2, u2, b1, b2, b3, b4⟩ := h2
  refine ⟨p1 ++ p2, u1 ++ u2, PurR_app a1 b1, LenR_app (PurR_len a1).2 a2 b2, by simp [a3, b3], fun i y hy => ?_⟩
  rcases Nat.lt_or_ge i p1.length with hi | hi
  · rw [List.getElem?_append_left hi] at hy
    obtain ⟨u, hu, hr⟩ := a4 i y hy
    exact ⟨u, by rw [List.getElem?_append_left (by omega)]; exact hu, hr⟩
  · rw [List.getElem?_append_right hi] at hy
    obtain ⟨u, hu, hr⟩ := b4 _ y hy
    exact ⟨u, by rw [List.getElem?_append_right (by omega), ← a3]; exact hu, hr⟩

theorem plain_addr {a : Addr} {v : Value} (h : w.cell? a = some v) : ∃ g o, a = ⟨g, o, none⟩ ∧ g < w.heap.size := by
  obtain ⟨g, o, sp⟩ := a
  unfold World.cell? at h
  have hg : g < w.heap.size := by
    rcases Nat.lt_or_ge g w.heap.size with h1 | h1
    · exact h1
    · rw [Array.getElem?_eq_none h1] at h; cases sp <;> simp at h
  cases sp with
  | none => exact ⟨g, o, rfl, hg⟩
  | some s => simp at h; split at h <;> cases h

/-- A slice out of its elements. -/
theorem got_slice {fs : List Fd} {a : Addr} {len cap : Nat} (hpos : 0 < fs.length) (hl : len ≤ cap) (hm : cap ≤ maxLen) (hx : ∀ i, i < len → ∃ cs', w.cells? base (a.add (i * fs.length)) fs.length = some cs' ∧ Got w fs cs') :
    Got w [.sub fs] [.slice (some a) len cap] := by
  have hx' : ∀ i, i < len → ∃ q : List V × List U × List Value, w.cells? base (a.add (i * fs.length)) fs.length = some q.2.2 ∧ PurR fs q.1 q.2.1 ∧ LenR B63 B63 fs q.2.1 ∧ q.1.length = q.2.2.length ∧ ∀ (j : Nat) (y : V), q.1[j]? = some y → ∃ u, q.2.2[j]? = some u ∧ Rep w (fun b => b < w.heap.size) u y := by
    intro i hi
    obtain ⟨cs', h1, ps, us, h2, h3, h4, h5⟩ := hx i hi
    exact ⟨(ps, us, cs'), h1, h2, h3, h4, h5⟩
  obtain ⟨q, hq⟩ := Go.Deep.choose_lt hx'
  have hzip : ∀ (n : Nat), n ≤ len → Zip2 (PurR fs) ((List.range n).map fun i => (q i).1) ((List.range n).map fun i => (q i).2.1) ∧ AllU (LenR B63 B63 fs) ((List.range n).map fun i => (q i).2.1) := by
    have z2 : ∀ {l1 : List (List V)} {l2 : List (List U)} {c : List V} {x : List U}, Zip2 (PurR fs) l1 l2 → PurR fs c x → Zip2 (PurR fs) (l1 ++ [c]) (l2 ++ [x]) := by
      intro l1
      induction l1 with
      | nil => intro l2 c x h hc; cases l2 with
        | nil => exact ⟨hc, trivial⟩
        | cons b bs => exact h.elim
      | cons a l1 ih => intro l2 c x h hc; cases l2 with
        | nil => exact h.elim
        | cons b bs => exact ⟨h.1, ih h.2 hc⟩
    have a2 : ∀ {l2 : List (List U)} {x : List U}, AllU (LenR B63 B63 fs) l2 → LenR B63 B63 fs x → AllU (LenR B63 B63 fs) (l2 ++ [x]) := by
      intro l2
      induction l2 with
      | nil => intro x _ hx; exact ⟨hx, trivial⟩
      | cons b bs ih => intro x h hx; exact ⟨h.1, ih h.2 hx⟩
    intro n
    induction n with
    | zero => intro _; exact ⟨trivial, trivial⟩
    | succ n ih =>
      intro hn
      obtain ⟨i1, i2⟩ := ih (by omega)
      obtain ⟨_, b1, b2, _⟩ := hq n (by omega)
      rw [List.range_succ, List.map_append, List.map_append]
      exact ⟨z2 i1 b1, a2 i2 b2⟩
  obtain ⟨z1, z2⟩ := hzip len (Nat.le_refl _)
  have hml : maxLen = 9223372036854775807 := by decide
  refine Got.one (p := .sl false fs.length ((List.range len).map fun i => (q i).1)) (u := .sub ((List.range len).map fun i => (q i).2.1)) ?_ ?_ ?_
  · simp only [PurF]
    exact ⟨false, _, _, rfl, rfl, z1⟩
  · simp only [LenF, List.length_map, List.length_range]
    exact ⟨by unfold B63; omega, z2⟩
  · have hlen : ∀ j x, ((List.range len).map fun i => (q i).1)[j]? = some x → j < len ∧ x = (q j).1 := by
      intro j x hx
      rw [List.getElem?_map] at hx
      obtain ⟨k, hk, rfl⟩ := Option.map_eq_some_iff.1 hx
      have hj : j < len := by
        have := (List.getElem?_eq_some_iff.1 hk).1
        simpa using this
      rw [List.getElem?_range hj] at hk
      injection hk with hk
      subst hk
      exact ⟨hj, rfl⟩
    have hcell : ∀ (j c : Nat) (y : V), j < len → (q j).1[c]? = some y → ∃ u, (q j).2.2[c]? = some u ∧ w.cell? ((a.add (j * fs.length)).add c) = some u ∧ Rep w (fun b => b < w.heap.size) u y := by
      intro j c y hj hy
      obtain ⟨h1, h2, h3, h4, h5⟩ := hq j hj
      obtain ⟨_, h6, h7⟩ := World.cells?_some h1
      obtain ⟨u, hu, hr⟩ := h5 c y hy
      have hc : c < fs.length := by
        have := (List.getElem?_eq_some_iff.1 hu).1
        omega
      exact ⟨u, hu, (h7 c hc).trans hu, hr⟩
    refine Rep.sl (some a) len cap false _ fs.length (fun j c => ((q j).2.2[c]?).getD undef) (by simp) hl (fun e => by cases e) hpos (fun x hx => ?_) (fun hn => ?_) (fun j c x y hx hy => ?_)
    · obtain ⟨j, hj⟩ := List.getElem?_of_mem hx
      obtain ⟨h1, rfl⟩ := hlen j x hj
      exact (PurR_len (hq j h1).2.1).1
    · have h0 := (PurR_len (hq 0 hn).2.1).1
      have hy0 : (q 0).1[0]? = some (q 0).1[0] := List.getElem?_eq_getElem (by omega)
      obtain ⟨u0, _, c0, _⟩ := hcell 0 0 _ hn hy0
      rw [Nat.zero_mul] at c0
      have ha : (a.add 0).add 0 = a := by simp [Addr.add]
      rw [ha] at c0
      obtain ⟨g, o, rfl, hg⟩ := plain_addr c0
      refine ⟨g, o, rfl, hg, fun j c x y hx hy => ?_⟩
      obtain ⟨h1, rfl⟩ := hlen j x hx
      obtain ⟨u, hu, hc, _⟩ := hcell j c y h1 hy
      rw [add0, add0] at hc
      rw [hc, hu]
      rfl
    · obtain ⟨h1, rfl⟩ := hlen j x hx
      obtain ⟨u, hu, _, hr⟩ := hcell j c y h1 hy
      show Rep w _ (((q j).2.2[c]?).getD undef) y
      rw [hu]
      exact hr

mutual
theorem gotF : ∀ (n : Nat) {t : TypeId} {f : Fd} {fuel : Nat} {cs : List Value} {x : DataW H × List MemPlace}, tyF P n t f = true → DataW.trod enc P w base spare held fuel t cs = some x → Got w [f] cs
  | 0, _, _, _, _, _, ht, _ => by simp [tyF] at ht
  | n + 1, t, .int k, fuel, cs, x, ht, h => by
    simp only [tyF] at ht
    split at ht
    · rename_i k' hu
      simp only [decide_eq_true_eq] at ht
      subst ht
      obtain ⟨m, rfl, _, _⟩ := DataW.trod_int hu h
      exact Got.one (p := .int k' m) (u := .int m) (by simp only [PurF]; exact ⟨m, rfl, rfl⟩) (by simp [LenF]) (.int _ _)
    · cases ht
  | n + 1, t, .bool, fuel, cs, x, ht, h => by
    simp only [tyF] at ht
    split at ht
    · rename_i hu
      obtain ⟨m, rfl, _⟩ := DataW.trod_bool hu h
      exact Got.one (p := .bool m) (u := .bool m) (by simp only [PurF]; exact ⟨m, rfl, rfl⟩) (by simp [LenF]) (.bool _)
    · cases ht
  | n + 1, t, .str, fuel, cs, x, ht, h => by
    simp only [tyF] at ht
    split at ht
    · rename_i hu
      obtain ⟨m, rfl, _, hm⟩ := DataW.trod_string hu h
      have hml : maxLen = 9223372036854775807 := by decide
      exact Got.one (p := .str m) (u := .str m) (by simp only [PurF]; exact ⟨m, rfl, rfl⟩) (by simp only [LenF]; unfold B63; omega) (.str _)
    · cases ht
  | n + 1, t, .sub fs, fuel, cs, x, ht, h => by
    simp only [tyF] at ht
    split at ht
    · rename_i e hu
      simp only [Bool.and_eq_true, decide_eq_true_eq] at ht
      obtain ⟨⟨hc, hpos⟩, hr⟩ := ht
      rcases Go.Deep.open_slice hu h with ⟨rfl, _⟩ | ⟨a, len, cap, m, k, D, Pl, rfl, hb, hl, hm, hmm, _, hx⟩
      · exact Got.one (p := .sl true fs.length []) (u := .sub []) (by rw [PurF]; exact ⟨true, [], [], rfl, rfl, trivial⟩) (by simp only [LenF]; exact ⟨Nat.zero_le _, trivial⟩) (rep_empty hpos (fun _ => rfl))
      · refine got_slice (base := base) hpos hl hm (fun i hi => ?_)
        obtain ⟨cs', h1, h2⟩ := hx i (by rw [hmm]; split <;> omega)
        rw [hc] at h1
        exact ⟨cs', h1, gotR n hr h2⟩
    · cases ht
theorem gotR : ∀ (n : Nat) {t : TypeId} {fs : List Fd} {fuel : Nat} {cs : List Value} {x : DataW H × List MemPlace}, tyR P n t fs = true → DataW.trod enc P w base spare held fuel t cs = some x → Got w fs cs
  | 0, _, _, _, _, _, ht, _ => by simp [tyR] at ht
  | n + 1, t, fs, fuel, cs, x, ht, h => by
    simp only [tyR] at ht
    split at ht
    · rename_i flds hu
      simp only [Bool.and_eq_true, decide_eq_true_eq] at ht
      obtain ⟨xs, k, _, _, hcl, hxl, hf⟩ := DataW.trod_struct hu h
      refine gotS n (cs := cs) (off := 0) (fuel := k) ht.2 (by omega) (fun i fl hi => ?_)
      have hlt : i < xs.length := by
        have := (List.getElem?_eq_some_iff.1 hi).1
        simp at this
        omega
      rw [Array.getElem?_toList] at hi
      exact ⟨xs[i], by rw [hf i fl hi, List.getElem?_eq_getElem hlt]⟩
    · split at ht
      · rename_i f
        exact gotF n ht h
      · cases ht
theorem gotS : ∀ (n : Nat) {flds : List Field} {off : Nat} {fs : List Fd} {fuel : Nat} {cs : List Value}, tyS P n flds off fs = true → cs.length = off + fs.length → (∀ (i : Nat) (fl : Field), flds[i]? = some fl → ∃ x, DataW.trod enc P w base spare held fuel fl.type ((cs.drop fl.offset).take (P.cellsOf fl.type)) = some x) → Got w fs (cs.drop off)
  | 0, _, _, _, _, _, ht, _, _ => by simp [tyS] at ht
  | n + 1, [], off, fs, fuel, cs, ht, hl, _ => by
    simp only [tyS, List.isEmpty_iff] at ht
    subst ht
    rw [List.drop_of_length_le (by simp at hl; omega)]
    exact ⟨[], [], by simp [PurR], by simp [LenR], rfl, fun i y hy => by simp at hy⟩
  | n + 1, fl :: r, off, fs, fuel, cs, ht, hl, hx => by
    simp only [tyS, Bool.and_eq_true, decide_eq_true_eq] at ht
    obtain ⟨⟨⟨ho, h1⟩, hle⟩, h2⟩ := ht
    obtain ⟨x, hx0⟩ := hx 0 fl rfl
    rw [ho] at hx0
    have g1 := gotR n h1 hx0
    have g2 := gotS n (cs := cs) (off := off + P.cellsOf fl.type) h2 (by rw [List.length_drop]; omega) (fun i f hi => hx (i + 1) f (by simpa using hi))
    have g := g1.app g2
    rw [List.take_append_drop] at g
    rw [← List.drop_drop, List.take_append_drop] at g
    exact g
end
/-- An argument of a slice's type. -/
theorem got_arg {t : TypeId} {fs : List Fd} {v : Value} {d : DataW H} {ps : List MemPlace} (n : Nat) (ht : tyF P n t (.sub fs) = true) (h : DataW.Trod enc P w base spare held t v d ps) (hv : v.cells = #[v]) :
    ∃ p xs, Rep w (fun b => b < w.heap.size) v p ∧ PurF (.sub fs) p (.sub xs) ∧ LenF B63 B63 (.sub fs) (.sub xs) := by
  obtain ⟨fuel, h⟩ := h
  obtain ⟨ps, us, h1, h2, h3, h4⟩ := gotF n ht h
  simp only [PurR] at h1
  obtain ⟨p, _, u, _, rfl, rfl, g, rfl, rfl⟩ := h1
  simp only [LenR] at h2
  obtain ⟨u', hu, hr⟩ := h4 0 p rfl
  rw [hv] at hu
  simp at hu
  subst hu
  have g' := g
  simp only [PurF] at g'
  obtain ⟨_, _, xs, _, rfl, _⟩ := g'
  exact ⟨p, xs, hr, g, h2.1⟩
end
end Go.Proofs.Ytnnjpiepoeknnaa.PE
