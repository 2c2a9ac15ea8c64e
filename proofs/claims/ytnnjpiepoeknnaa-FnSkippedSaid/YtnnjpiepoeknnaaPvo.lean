/- The order of values is an order. -/
import Derived.Test.YtnnjpiepoeknnaaPv2
set_option linter.unusedSimpArgs false
set_option linter.unusedVariables false
namespace Go.Proofs.Ytnnjpiepoeknnaa.PE
open Go.RowKit

def ltB (a b : ByteArray) : Prop := a.data.toList < b.data.toList
theorem ltS_iff (a b : ByteArray) : ltS a b = true ↔ ltB a b := by simp [ltS, ltB]
theorem ltB_asymm {a b : ByteArray} (h : ltB a b) : ¬ ltB b a := List.lt_asymm h
theorem ltB_irrefl (a : ByteArray) : ¬ ltB a a := List.lt_irrefl _
theorem ltB_trans {a b c : ByteArray} (h : ltB a b) (h' : ltB b c) : ltB a c := List.lt_trans h h'
theorem ltB_tri {a b : ByteArray} (h : ¬ ltB a b) (h' : ¬ ltB b a) : a = b := by
  have := str_gt a b
  by_cases e : a = b
  · exact e
  · exfalso
    rw [show ltS a b = false from by rw [← Bool.not_eq_true, ltS_iff]; exact h, show ltS b a = false from by rw [← Bool.not_eq_true, ltS_iff]; exact h'] at this
    simp [e] at this
theorem cmpS_lt (a b : ByteArray) : cmpS a b < 0 ↔ ltB a b := by
  unfold cmpS
  rw [← ltS_iff]
  split
  · simp [*]
  · split <;> simp [*]
theorem cmpS_gt (a b : ByteArray) : 0 < cmpS a b ↔ ltB b a := by
  unfold cmpS
  rw [← ltS_iff]
  split
  · rename_i h
    have : ¬ ltB b a := ltB_asymm ((ltS_iff a b).1 h)
    rw [← ltS_iff] at this
    simp [this]
  · split <;> simp [*]
theorem cmpS_eq (a b : ByteArray) : cmpS a b = 0 ↔ a = b := by
  constructor
  · intro h
    refine ltB_tri (fun h1 => ?_) (fun h1 => ?_)
    · rw [← cmpS_lt] at h1; omega
    · rw [← cmpS_gt] at h1; omega
  · rintro rfl
    have h1 := ltB_irrefl a
    have h2 := ltB_irrefl a
    rw [← cmpS_lt] at h1
    rw [← cmpS_gt] at h2
    omega
theorem cmpI_lt (a b : Int) : cmpI a b < 0 ↔ a < b := by unfold cmpI; split <;> (try split) <;> omega
theorem cmpI_gt (a b : Int) : 0 < cmpI a b ↔ b < a := by unfold cmpI; split <;> (try split) <;> omega
theorem cmpI_eq (a b : Int) : cmpI a b = 0 ↔ a = b := by unfold cmpI; split <;> (try split) <;> omega

def Val.lt (v w : Val) : Prop := v.kind < w.kind ∨ v.kind = w.kind ∧ (v.n < w.n ∨ v.n = w.n ∧ ltB v.s w.s)
theorem Val.lt_asymm {v w : Val} (h : v.lt w) : ¬ w.lt v := by
  unfold Val.lt at *
  rintro (h1 | ⟨h1, h2 | ⟨h2, h3⟩⟩)
  · omega
  · omega
  · rcases h with h | ⟨h, h4 | ⟨h4, h5⟩⟩
    · omega
    · omega
    · exact ltB_asymm h5 h3
theorem Val.lt_trans {v w x : Val} (h : v.lt w) (h' : w.lt x) : v.lt x := by
  unfold Val.lt at *
  rcases h with h | ⟨h, h4 | ⟨h4, h5⟩⟩ <;> rcases h' with h' | ⟨h', h6 | ⟨h6, h7⟩⟩
  all_goals first | (left; omega) | (right; refine ⟨by omega, ?_⟩; first | (left; omega) | (right; exact ⟨by omega, ltB_trans h5 h7⟩))
theorem Val.tri {v w : Val} (h : ¬ v.lt w) (h' : ¬ w.lt v) : v = w := by
  unfold Val.lt at *
  have e1 : v.kind = w.kind := by
    rcases Int.lt_trichotomy v.kind w.kind with h1 | h1 | h1
    · exact absurd (.inl h1) h
    · exact h1
    · exact absurd (.inl h1) h'
  have e2 : v.n = w.n := by
    rcases Int.lt_trichotomy v.n w.n with h1 | h1 | h1
    · exact absurd (.inr ⟨e1, .inl h1⟩) h
    · exact h1
    · exact absurd (.inr ⟨e1.symm, .inl h1⟩) h'
  have e3 : v.s = w.s := ltB_tri (fun h1 => h (.inr ⟨e1, .inr ⟨e2, h1⟩⟩)) (fun h1 => h' (.inr ⟨e1.symm, .inr ⟨e2.symm, h1⟩⟩))
  cases v; cases w
  simp_all
theorem Val.cmp_lt (v w : Val) : v.cmp w < 0 ↔ v.lt w := by
  unfold Val.cmp Val.lt
  have h1 := cmpI_lt v.kind w.kind
  have h2 := cmpI_eq v.kind w.kind
  have h3 := cmpI_lt v.n w.n
  have h4 := cmpI_eq v.n w.n
  have h5 := cmpS_lt v.s w.s
  split
  · rw [h1]
    constructor
    · exact fun h => .inl h
    · rintro (h | h)
      · exact h
      · exact absurd (h2.2 h.1) (by assumption)
  · have e1 : v.kind = w.kind := h2.1 (by omega)
    split
    · rw [h3]
      constructor
      · exact fun h => .inr ⟨e1, .inl h⟩
      · rintro (h | ⟨_, h | h⟩)
        · omega
        · exact h
        · exact absurd (h4.2 h.1) (by assumption)
    · have e2 : v.n = w.n := h4.1 (by omega)
      rw [h5]
      constructor
      · exact fun h => .inr ⟨e1, .inr ⟨e2, h⟩⟩
      · rintro (h | ⟨_, h | h⟩)
        · omega
        · omega
        · exact h.2
theorem Val.cmp_gt (v w : Val) : 0 < v.cmp w ↔ w.lt v := by
  unfold Val.cmp Val.lt
  have h1 := cmpI_gt v.kind w.kind
  have h2 := cmpI_eq v.kind w.kind
  have h3 := cmpI_gt v.n w.n
  have h4 := cmpI_eq v.n w.n
  have h5 := cmpS_gt v.s w.s
  split
  · rw [h1]
    constructor
    · exact fun h => .inl h
    · rintro (h | h)
      · exact h
      · exact absurd (h2.2 h.1.symm) (by assumption)
  · have e1 : v.kind = w.kind := h2.1 (by omega)
    split
    · rw [h3]
      constructor
      · exact fun h => .inr ⟨e1.symm, .inl h⟩
      · rintro (h | ⟨_, h | h⟩)
        · omega
        · exact h
        · exact absurd (h4.2 h.1.symm) (by assumption)
    · have e2 : v.n = w.n := h4.1 (by omega)
      rw [h5]
      constructor
      · exact fun h => .inr ⟨e1.symm, .inr ⟨e2.symm, h⟩⟩
      · rintro (h | ⟨_, h | h⟩)
        · omega
        · omega
        · exact h.2
theorem Val.cmp_eq (v w : Val) : v.cmp w = 0 ↔ v = w := by
  constructor
  · intro h
    refine Val.tri (fun h1 => ?_) (fun h1 => ?_)
    · rw [← Val.cmp_lt] at h1; omega
    · rw [← Val.cmp_gt] at h1; omega
  · rintro rfl
    have h1 : ¬ v.lt v := fun h => Val.lt_asymm h h
    have h2 := h1
    rw [← Val.cmp_lt] at h1
    rw [← Val.cmp_gt] at h2
    omega
theorem Val.cmp_swap_lt (v w : Val) : v.cmp w < 0 ↔ 0 < w.cmp v := by rw [Val.cmp_lt, Val.cmp_gt]
theorem Val.cmp_swap_eq (v w : Val) : v.cmp w = 0 ↔ w.cmp v = 0 := by rw [Val.cmp_eq, Val.cmp_eq]; exact eq_comm
/-- What is not behind comes not behind what is not ahead. -/
theorem Val.le_lt {a b c : Val} (h : a.cmp b ≤ 0) (h' : b.cmp c < 0) : a.cmp c < 0 := by
  rcases Int.lt_or_eq_of_le h with h1 | h1
  · rw [Val.cmp_lt] at *; exact Val.lt_trans h1 h'
  · rw [Val.cmp_eq] at h1; rw [h1]; exact h'
theorem Val.le_le {a b c : Val} (h : a.cmp b ≤ 0) (h' : b.cmp c ≤ 0) : a.cmp c ≤ 0 := by
  rcases Int.lt_or_eq_of_le h' with h1 | h1
  · exact Int.le_of_lt (Val.le_lt h h1)
  · rw [Val.cmp_eq] at h1; rw [← h1]; exact h
end Go.Proofs.Ytnnjpiepoeknnaa.PE
