/- Values of expressions have their kinds; what stands below is not touched. -/
import Derived.Test.YtgepapgabnaonaaPx6
import Derived.Test.YtgepapgabnaonaaPy3
set_option linter.unusedSimpArgs false
set_option linter.unusedVariables false
set_option maxHeartbeats 4000000
namespace Go.Proofs.Ytgepapgabnaonaa.PE
open Go.RowKit

def TyOk (k : Int) (v : Val) : Prop := v.ok = true ∧ (v.kind = k ∨ v.kind = 0)
def Tys (ks : List Int) (st : List Val) : Prop := ks.length = st.length ∧ ∀ (i : Nat) (k : Int) (v : Val), ks[i]? = some k → st[i]? = some v → TyOk k v
theorem tys_snoc {ks : List Int} {st : List Val} {k : Int} {v : Val} (h : Tys ks st) (n : Nat) (hv : TyOk k v) : Tys (ks.take n ++ [k]) (st.take n ++ [v]) := by
  refine ⟨by simp [h.1], fun i a b ha hb => ?_⟩
  have hlen : (ks.take n).length = (st.take n).length := by simp [h.1]
  rcases Nat.lt_trichotomy i (ks.take n).length with h3 | h3 | h3
  · rw [List.getElem?_append_left h3] at ha
    rw [List.getElem?_append_left (by omega)] at hb
    have hi : i < n := by simp at h3; omega
    rw [List.getElem?_take_of_lt hi] at ha hb
    exact h.2 i a b ha hb
  · subst h3
    rw [hlen] at hb
    simp at ha
    rw [List.getElem?_append_right (Nat.le_refl _)] at hb
    simp at hb
    subst ha hb
    exact hv
  · rw [List.getElem?_eq_none (by simp only [List.length_append, List.length_singleton]; omega)] at ha; cases ha
theorem ok_zero : Val.zero.ok = true := by decide +kernel
theorem valT_ty (t : Int) : TyOk 3 (valT t) := by
  unfold valT
  split
  · rename_i h
    refine ⟨?_, .inl rfl⟩
    simp [Val.ok]
    omega
  · exact ⟨ok_zero, .inr rfl⟩
theorem addV_ty (a b : Val) : TyOk 1 (addV a b) := by
  unfold addV
  split
  · exact ⟨ok_zero, .inr rfl⟩
  · split
    · exact ⟨ok_zero, .inr rfl⟩
    · split
      · rename_i h
        exact ⟨h, .inl rfl⟩
      · exact ⟨ok_zero, .inr rfl⟩
theorem fits_at {cs : List Col} {row : List Val} (h : fitsRow cs row = true) {i : Nat} (hi : i < cs.length) : TyOk (cs.getD i ⟨0, false⟩).kind (row.getD i Val.zero) := by
  have hl := fits_eq h
  simp only [fitsRow, Bool.and_eq_true, rowOk, List.all_eq_true, decide_eq_true_eq] at h
  obtain ⟨⟨⟨_, h2, _⟩, _⟩, h3⟩ := h
  have a1 := at_getD (⟨0, false⟩ : Col) hi
  have a2 := at_getD Val.zero (show i < row.length by omega)
  refine ⟨h2 _ (List.mem_of_getElem? a2), ?_⟩
  have := h3 (cs.getD i ⟨0, false⟩, row.getD i Val.zero) (List.mem_of_getElem? (List.getElem?_zip_eq_some.2 ⟨a1, a2⟩))
  simp only [fits1, Bool.or_eq_true, Bool.and_eq_true, decide_eq_true_eq] at this
  exact this.imp id (·.1)
theorem evS_ty {cs : List Col} {row : List Val} (hf : fitsRow cs row = true) {ks ks' : List Int} {st : List Val} {p : Prt} (hs : Tys ks st) (h : stpI cs ks p = some ks') : ∃ st', evS row st p = some st' ∧ Tys ks' st' := by
  have hrow := fits_eq hf
  obtain ⟨st', e1, e2⟩ := evS_of hrow hs.1.symm h
  refine ⟨st', e1, ?_⟩
  unfold stpI at h
  split at h
  · rename_i ht
    split at h
    · cases h
    · split at h
      · rename_i hok
        injection h with h
        subst h
        unfold evS at e1
        split at e1
        · rename_i hk
          have htk : p.takes = 2 := by unfold Prt.takes; rcases hk with hk | hk | hk | hk <;> simp [hk]
          split at e1
          · injection e1 with e1
            subst e1
            rw [htk, hs.1, show (2 : Int).toNat = 2 from rfl]
            refine tys_snoc hs _ ?_
            unfold val2 kindOf
            rcases hk with hk | hk | hk | hk
            · simp [hk]; exact addV_ty _ _
            · simp [hk]; exact valT_ty _
            · simp [hk]; exact valT_ty _
            · simp [hk]; exact valT_ty _
          · cases e1
        · split at e1
          · rename_i hk
            have htk : p.takes = 1 := by unfold Prt.takes; rcases hk with hk | hk <;> simp [hk]
            split at e1
            · injection e1 with e1
              subst e1
              rw [htk, hs.1, show (1 : Int).toNat = 1 from rfl]
              refine tys_snoc hs _ ?_
              unfold val1 kindOf
              rcases hk with hk | hk
              · simp [hk]; exact valT_ty _
              · simp [hk]; exact valT_ty _
            · cases e1
          · split at e1
            · rename_i hk
              have htk : p.takes = 0 := by unfold Prt.takes; rcases hk with hk | ⟨hk, _⟩ <;> simp [hk]
              injection e1 with e1
              subst e1
              rw [htk, show (0 : Int).toNat = 0 from rfl, Nat.sub_zero]
              have := tys_snoc (n := ks.length) (k := (kindOf cs p (ks.drop ks.length)).1) (v := val0 p.kind p.n p.v row) hs ?_
              · rw [show st.take ks.length = st from by rw [hs.1, List.take_length]] at this
                exact this
              · unfold val0 kindOf
                rcases hk with hk | ⟨hk, g1, g2⟩
                · simp [hk]
                  unfold Prt.tells at ht
                  simp [hk] at ht
                  exact ⟨ht.2.1, .inl rfl⟩
                · have := fits_at hf (show p.n.toNat < cs.length by omega)
                  simp only [hk]
                  simpa using this
            · cases e1
      · cases h
  · cases h
theorem run_ty {cs : List Col} {row : List Val} (hf : fitsRow cs row = true) : ∀ {ps : List Prt} {ks ks' : List Int} {st : List Val}, Tys ks st → runStp (stpI cs) ks ps = some ks' → ∃ st', runStp (evS row) st ps = some st' ∧ Tys ks' st'
  | [], ks, ks', st, hs, h => by
    simp only [runStp, Option.some.injEq] at h
    subst h
    exact ⟨st, rfl, hs⟩
  | p :: ps, ks, ks', st, hs, h => by
    simp only [runStp] at h
    split at h
    · rename_i k1 hk
      obtain ⟨s1, h1, h2⟩ := evS_ty hf hs hk
      obtain ⟨s2, h3, h4⟩ := run_ty hf h2 h
      exact ⟨s2, by simp only [runStp, h1]; exact h3, h4⟩
    · cases h
theorem take_base {α : Type} (b l : List α) (n : Nat) (h : n ≤ l.length) : (b ++ l).take ((b ++ l).length - n) = b ++ l.take (l.length - n) := by
  rw [show (b ++ l).length - n = b.length + (l.length - n) by simp; omega, List.take_length_add_append]
theorem getD_base {α : Type} (b l : List α) (n : Nat) (z : α) (h : n ≤ l.length) (h0 : 0 < n) : (b ++ l).getD ((b ++ l).length - n) z = l.getD (l.length - n) z := by
  rw [List.getD_eq_getElem?_getD, List.getD_eq_getElem?_getD, show (b ++ l).length - n = b.length + (l.length - n) by simp; omega, List.getElem?_append_right (by omega)]
  congr 2
  omega
theorem evS_base {row : List Val} {st st' base : List Val} {p : Prt} (h : evS row st p = some st') : evS row (base ++ st) p = some (base ++ st') := by
  unfold evS at h ⊢
  split at h
  · rename_i hk
    rw [if_pos hk]
    split at h
    · rename_i hl
      injection h with h
      rw [if_pos (by simp; omega), take_base _ _ _ hl, getD_base _ _ _ _ hl (by decide), getD_base _ _ _ _ (by omega) (by decide), ← h, List.append_assoc]
    · cases h
  · rename_i hk
    rw [if_neg hk]
    split at h
    · rename_i hk1
      rw [if_pos hk1]
      split at h
      · rename_i hl
        injection h with h
        rw [if_pos (by simp; omega), take_base _ _ _ hl, getD_base _ _ _ _ hl (by decide), ← h, List.append_assoc]
      · cases h
    · rename_i hk1
      rw [if_neg hk1]
      split at h
      · rename_i hk0
        injection h with h
        rw [if_pos hk0, ← h, List.append_assoc]
      · cases h
theorem run_base {row : List Val} : ∀ {ps : List Prt} {st st' base : List Val}, runStp (evS row) st ps = some st' → runStp (evS row) (base ++ st) ps = some (base ++ st')
  | [], st, st', base, h => by
    simp only [runStp, Option.some.injEq] at h ⊢
    rw [h]
  | p :: ps, st, st', base, h => by
    simp only [runStp] at h ⊢
    split at h
    · rename_i s1 h1
      rw [evS_base h1]
      exact run_base h
    · cases h
/-- An expression that puts down one value of a kind has a value of it, or none. -/
theorem puts_val {cs : List Col} {row : List Val} {kd : Int} {e : List Prt} (hf : fitsRow cs row = true) (hp : Puts cs kd e) : ∃ v, TyOk kd v ∧ ∀ st, runStp (evS row) st e = some (st ++ [v]) := by
  have h0 := hp.1 []
  obtain ⟨st', h1, h2, h3⟩ := run_ty hf (st := []) (ks := []) ⟨rfl, fun i k v h => by simp at h⟩ h0
  match st', h1, h2, h3 with
  | [v], h1, _, h3 =>
    refine ⟨v, h3 0 kd v rfl rfl, fun st => ?_⟩
    have := run_base (base := st) h1
    simpa using this
end Go.Proofs.Ytgepapgabnaonaa.PE
